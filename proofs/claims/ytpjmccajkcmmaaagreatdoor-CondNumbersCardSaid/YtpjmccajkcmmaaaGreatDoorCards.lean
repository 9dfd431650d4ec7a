/-
  DERIVED. GIVEN WITH THE SEED: THE CARDS: each row of YtpjmccajkcmmaaaGreatDoorRows.lean that lists a variable, with what it lists TIED to the program's text (the seventh form; the later family's looks); each row that meets fmt, with fmt's text TOLD by the authors' own Lean function (tested against real Go, not proved from fmt's source: count such statements apart). THE CARD IS WHAT COUNTS. Prove the row's statement (the work); the ties are given (YtpjmccajkcmmaaaGreatDoorTie.lean); close each card by the builder's one call (the guide's Derived/Test/ToyasCard.lean, 'card_holds'). Laid BY PROGRAM, IN A SANDBOX (cutbox-door.mjs). By AI agents, Wed Nov 11 2026. No macro, syntax, notation, axiom, sorry.
-/
import Derived.Test.YtpjmccajkcmmaaaGreatDoorRows
import GoSem.ClaimSeven
namespace Go.Proofs.YtpjmccajkcmmaaaGreatDoor
namespace Rows

/-- THE TIED CARD OF 'bobstaylaw10.CondNot'. -/
def condNotCard : Claim7 := { stood := { row := condNotRow, standIns := [], harness := (true, "73269f395a474d47729703e2b462fb759157a0c38b8a2050785033d9d4a9c099"), looks := true }, kinds := [], alts := [], laidByText := true, laidKinds := [.data, .data, .data, .data, .sentinel, .sentinel, .pinned], laidTests := true, laidLooks := .later }
def CondNotCardSaid : Prop := Claim7.holds Tryz.pinned (.plain (OpenSpec.ofChange condNotSpec)) condNotCard

/-- THE TIED CARD OF 'bobstaylaw10.CondBoth'. -/
def condBothCard : Claim7 := { stood := { row := condBothRow, standIns := [], harness := (true, "73269f395a474d47729703e2b462fb759157a0c38b8a2050785033d9d4a9c099"), looks := true }, kinds := [], alts := [], laidByText := true, laidKinds := [.data, .data, .data, .data, .sentinel, .sentinel, .pinned], laidTests := true, laidLooks := .later }
def CondBothCardSaid : Prop := Claim7.holds Tryz.pinned (.plain (OpenSpec.ofChange condBothSpec)) condBothCard

/-- THE TIED CARD OF 'bobstaylaw10.CondNumbers'. -/
def condNumbersCard : Claim7 := { stood := { row := condNumbersRow, standIns := [], harness := (true, "73269f395a474d47729703e2b462fb759157a0c38b8a2050785033d9d4a9c099"), looks := true }, kinds := [], alts := [], laidByText := true, laidKinds := [.data, .data, .data, .data, .sentinel, .sentinel, .pinned], laidTests := true, laidLooks := .later }
def CondNumbersCardSaid : Prop := Claim7.holds Tryz.pinned (.plain (OpenSpec.ofChange condNumbersSpec)) condNumbersCard

/-- THE SECOND FORM's CARD OF 'bobstaylaw10.CondNot'. -/
def condNotUptoCard : Claim7 := { stood := { row := condNotUptoRow, standIns := [], harness := (true, "73269f395a474d47729703e2b462fb759157a0c38b8a2050785033d9d4a9c099"), looks := true }, kinds := [], alts := [], laidByText := true, laidKinds := [.data, .data, .data, .data, .sentinel, .sentinel, .pinned], laidTests := true, laidLooks := .later }
def CondNotUptoCardSaid : Prop := Claim7.holds Tryz.pinned (.plain (OpenSpec.upto condNotSpec)) condNotUptoCard

/-- THE SECOND FORM's CARD OF 'bobstaylaw10.CondBoth'. -/
def condBothUptoCard : Claim7 := { stood := { row := condBothUptoRow, standIns := [], harness := (true, "73269f395a474d47729703e2b462fb759157a0c38b8a2050785033d9d4a9c099"), looks := true }, kinds := [], alts := [], laidByText := true, laidKinds := [.data, .data, .data, .data, .sentinel, .sentinel, .pinned], laidTests := true, laidLooks := .later }
def CondBothUptoCardSaid : Prop := Claim7.holds Tryz.pinned (.plain (OpenSpec.upto condBothSpec)) condBothUptoCard

/-- THE SECOND FORM's CARD OF 'bobstaylaw10.CondNumbers'. -/
def condNumbersUptoCard : Claim7 := { stood := { row := condNumbersUptoRow, standIns := [], harness := (true, "73269f395a474d47729703e2b462fb759157a0c38b8a2050785033d9d4a9c099"), looks := true }, kinds := [], alts := [], laidByText := true, laidKinds := [.data, .data, .data, .data, .sentinel, .sentinel, .pinned], laidTests := true, laidLooks := .later }
def CondNumbersUptoCardSaid : Prop := Claim7.holds Tryz.pinned (.plain (OpenSpec.upto condNumbersSpec)) condNumbersUptoCard
end Rows
end Go.Proofs.YtpjmccajkcmmaaaGreatDoor
