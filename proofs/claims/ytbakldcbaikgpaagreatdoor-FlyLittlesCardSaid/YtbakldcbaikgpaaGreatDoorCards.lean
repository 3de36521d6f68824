/-
  DERIVED. GIVEN WITH THE SEED: THE CARDS: each row of YtbakldcbaikgpaaGreatDoorRows.lean that lists a variable, with what it lists TIED to the program's text (the seventh form; the later family's looks); each row that meets fmt, with fmt's text TOLD by the authors' own Lean function (tested against real Go, not proved from fmt's source: count such statements apart). THE CARD IS WHAT COUNTS. Prove the row's statement (the work); the ties are given (YtbakldcbaikgpaaGreatDoorTie.lean); close each card by the builder's one call (the guide's Derived/Test/ToyasCard.lean, 'card_holds'). Laid BY PROGRAM, IN A SANDBOX (cutbox-door.mjs). By AI agents, Wed Nov 11 2026. No macro, syntax, notation, axiom, sorry.
-/
import Derived.Test.YtbakldcbaikgpaaGreatDoorRows
import GoSem.ClaimSeven
namespace Go.Proofs.YtbakldcbaikgpaaGreatDoor
namespace Rows

/-- THE TIED CARD OF 'tillerlaw25.CycPlains'. -/
def cycPlainsCard : Claim7 := { stood := { row := cycPlainsRow, standIns := [], harness := (true, "0502f1664d35a77f8354b8974b63e6e0d5091e28b2e33bc17eeea8b6d71eb835"), looks := true }, kinds := [], alts := [], laidByText := true, laidKinds := [.handle], laidTests := true, laidLooks := .later }
def CycPlainsCardSaid : Prop := Claim7.holds Tryz.pinned (.plain (OpenSpec.ofChange cycPlainsSpec)) cycPlainsCard

/-- THE TIED CARD OF 'tillerlaw18.FlyLittles'. -/
def flyLittlesCard : Claim7 := { stood := { row := flyLittlesRow, standIns := [], harness := (true, "0502f1664d35a77f8354b8974b63e6e0d5091e28b2e33bc17eeea8b6d71eb835"), looks := true }, kinds := [], alts := [], laidByText := true, laidKinds := [.handle], laidTests := true, laidLooks := .later }
def FlyLittlesCardSaid : Prop := Claim7.holds Tryz.pinned (.plain (OpenSpec.ofChange flyLittlesSpec)) flyLittlesCard

/-- THE TIED CARD OF 'tillerlaw18.FlyMirror'. -/
def flyMirrorCard : Claim7 := { stood := { row := flyMirrorRow, standIns := [], harness := (true, "0502f1664d35a77f8354b8974b63e6e0d5091e28b2e33bc17eeea8b6d71eb835"), looks := true }, kinds := [], alts := [], laidByText := true, laidKinds := [.handle], laidTests := true, laidLooks := .later }
def FlyMirrorCardSaid : Prop := Claim7.holds Tryz.pinned (.plain (OpenSpec.ofChange flyMirrorSpec)) flyMirrorCard

/-- THE TIED CARD OF 'tillerlaw18.FlyScaled'. -/
def flyScaledCard : Claim7 := { stood := { row := flyScaledRow, standIns := [], harness := (true, "0502f1664d35a77f8354b8974b63e6e0d5091e28b2e33bc17eeea8b6d71eb835"), looks := true }, kinds := [], alts := [], laidByText := true, laidKinds := [.handle], laidTests := true, laidLooks := .later }
def FlyScaledCardSaid : Prop := Claim7.holds Tryz.pinned (.plain (OpenSpec.ofChange flyScaledSpec)) flyScaledCard

/-- THE SECOND FORM's CARD OF 'tillerlaw25.CycPlains'. -/
def cycPlainsUptoCard : Claim7 := { stood := { row := cycPlainsUptoRow, standIns := [], harness := (true, "0502f1664d35a77f8354b8974b63e6e0d5091e28b2e33bc17eeea8b6d71eb835"), looks := true }, kinds := [], alts := [], laidByText := true, laidKinds := [.handle], laidTests := true, laidLooks := .later }
def CycPlainsUptoCardSaid : Prop := Claim7.holds Tryz.pinned (.plain (OpenSpec.upto cycPlainsSpec)) cycPlainsUptoCard

/-- THE SECOND FORM's CARD OF 'tillerlaw18.FlyLittles'. -/
def flyLittlesUptoCard : Claim7 := { stood := { row := flyLittlesUptoRow, standIns := [], harness := (true, "0502f1664d35a77f8354b8974b63e6e0d5091e28b2e33bc17eeea8b6d71eb835"), looks := true }, kinds := [], alts := [], laidByText := true, laidKinds := [.handle], laidTests := true, laidLooks := .later }
def FlyLittlesUptoCardSaid : Prop := Claim7.holds Tryz.pinned (.plain (OpenSpec.upto flyLittlesSpec)) flyLittlesUptoCard

/-- THE SECOND FORM's CARD OF 'tillerlaw18.FlyMirror'. -/
def flyMirrorUptoCard : Claim7 := { stood := { row := flyMirrorUptoRow, standIns := [], harness := (true, "0502f1664d35a77f8354b8974b63e6e0d5091e28b2e33bc17eeea8b6d71eb835"), looks := true }, kinds := [], alts := [], laidByText := true, laidKinds := [.handle], laidTests := true, laidLooks := .later }
def FlyMirrorUptoCardSaid : Prop := Claim7.holds Tryz.pinned (.plain (OpenSpec.upto flyMirrorSpec)) flyMirrorUptoCard

/-- THE SECOND FORM's CARD OF 'tillerlaw18.FlyScaled'. -/
def flyScaledUptoCard : Claim7 := { stood := { row := flyScaledUptoRow, standIns := [], harness := (true, "0502f1664d35a77f8354b8974b63e6e0d5091e28b2e33bc17eeea8b6d71eb835"), looks := true }, kinds := [], alts := [], laidByText := true, laidKinds := [.handle], laidTests := true, laidLooks := .later }
def FlyScaledUptoCardSaid : Prop := Claim7.holds Tryz.pinned (.plain (OpenSpec.upto flyScaledSpec)) flyScaledUptoCard
end Rows
end Go.Proofs.YtbakldcbaikgpaaGreatDoor
