/-
  DERIVED. GIVEN WITH THE SEED: THE CARDS: each row of YtmagggflamdahaaGreatDoorRows.lean that lists a variable, with what it lists TIED to the program's text (the seventh form; the later family's looks); each row that meets fmt, with fmt's text TOLD by the authors' own Lean function (tested against real Go, not proved from fmt's source: count such statements apart). THE CARD IS WHAT COUNTS. Prove the row's statement (the work); the ties are given (YtmagggflamdahaaGreatDoorTie.lean); close each card by the builder's one call (the guide's Derived/Test/ToyasCard.lean, 'card_holds'). Laid BY PROGRAM, IN A SANDBOX (cutbox-door.mjs). By AI agents, Wed Nov 11 2026. No macro, syntax, notation, axiom, sorry.
-/
import Derived.Test.YtmagggflamdahaaGreatDoorRows
import GoSem.ClaimSeven
namespace Go.Proofs.YtmagggflamdahaaGreatDoor
namespace Rows

/-- THE TIED CARD OF 'bobstaylaw17.ShChecks'. -/
def shChecksCard : Claim7 := { stood := { row := shChecksRow, standIns := [], harness := (true, "f22657d7b599c0e0a98f511c3dd4370b0df8b47be96ee9a1027dccc274c12a23"), looks := true }, kinds := [], alts := [], laidByText := true, laidKinds := [.data, .data, .data, .data, .sentinel, .sentinel, .pinned], laidTests := true, laidLooks := .later }
def ShChecksCardSaid : Prop := Claim7.holds Tryz.pinned (.plain (OpenSpec.ofChange shChecksSpec)) shChecksCard

/-- THE TIED CARD OF 'bobstaylaw17.ShSaid'. -/
def shSaidCard : Claim7 := { stood := { row := shSaidRow, standIns := [], harness := (true, "f22657d7b599c0e0a98f511c3dd4370b0df8b47be96ee9a1027dccc274c12a23"), looks := true }, kinds := [], alts := [], laidByText := true, laidKinds := [.data, .data, .data, .data, .sentinel, .sentinel, .pinned], laidTests := true, laidLooks := .later }
def ShSaidCardSaid : Prop := Claim7.holds Tryz.pinned (.plain (OpenSpec.ofChange shSaidSpec)) shSaidCard

/-- THE TIED CARD OF 'bobstaylaw17.ShNobody'. -/
def shNobodyCard : Claim7 := { stood := { row := shNobodyRow, standIns := [], harness := (true, "f22657d7b599c0e0a98f511c3dd4370b0df8b47be96ee9a1027dccc274c12a23"), looks := true }, kinds := [], alts := [], laidByText := true, laidKinds := [.data, .data, .data, .data, .sentinel, .sentinel, .pinned], laidTests := true, laidLooks := .later }
def ShNobodyCardSaid : Prop := Claim7.holds Tryz.pinned (.plain (OpenSpec.ofChange shNobodySpec)) shNobodyCard

/-- THE TIED CARD OF 'bobstaylaw17.ShWhole'. -/
def shWholeCard : Claim7 := { stood := { row := shWholeRow, standIns := [], harness := (true, "f22657d7b599c0e0a98f511c3dd4370b0df8b47be96ee9a1027dccc274c12a23"), looks := true }, kinds := [], alts := [], laidByText := true, laidKinds := [.data, .data, .data, .data, .sentinel, .sentinel, .pinned], laidTests := true, laidLooks := .later }
def ShWholeCardSaid : Prop := Claim7.holds Tryz.pinned (.plain (OpenSpec.ofChange shWholeSpec)) shWholeCard

/-- THE SECOND FORM's CARD OF 'bobstaylaw17.ShChecks'. -/
def shChecksUptoCard : Claim7 := { stood := { row := shChecksUptoRow, standIns := [], harness := (true, "f22657d7b599c0e0a98f511c3dd4370b0df8b47be96ee9a1027dccc274c12a23"), looks := true }, kinds := [], alts := [], laidByText := true, laidKinds := [.data, .data, .data, .data, .sentinel, .sentinel, .pinned], laidTests := true, laidLooks := .later }
def ShChecksUptoCardSaid : Prop := Claim7.holds Tryz.pinned (.plain (OpenSpec.upto shChecksSpec)) shChecksUptoCard

/-- THE SECOND FORM's CARD OF 'bobstaylaw17.ShSaid'. -/
def shSaidUptoCard : Claim7 := { stood := { row := shSaidUptoRow, standIns := [], harness := (true, "f22657d7b599c0e0a98f511c3dd4370b0df8b47be96ee9a1027dccc274c12a23"), looks := true }, kinds := [], alts := [], laidByText := true, laidKinds := [.data, .data, .data, .data, .sentinel, .sentinel, .pinned], laidTests := true, laidLooks := .later }
def ShSaidUptoCardSaid : Prop := Claim7.holds Tryz.pinned (.plain (OpenSpec.upto shSaidSpec)) shSaidUptoCard

/-- THE SECOND FORM's CARD OF 'bobstaylaw17.ShNobody'. -/
def shNobodyUptoCard : Claim7 := { stood := { row := shNobodyUptoRow, standIns := [], harness := (true, "f22657d7b599c0e0a98f511c3dd4370b0df8b47be96ee9a1027dccc274c12a23"), looks := true }, kinds := [], alts := [], laidByText := true, laidKinds := [.data, .data, .data, .data, .sentinel, .sentinel, .pinned], laidTests := true, laidLooks := .later }
def ShNobodyUptoCardSaid : Prop := Claim7.holds Tryz.pinned (.plain (OpenSpec.upto shNobodySpec)) shNobodyUptoCard

/-- THE SECOND FORM's CARD OF 'bobstaylaw17.ShWhole'. -/
def shWholeUptoCard : Claim7 := { stood := { row := shWholeUptoRow, standIns := [], harness := (true, "f22657d7b599c0e0a98f511c3dd4370b0df8b47be96ee9a1027dccc274c12a23"), looks := true }, kinds := [], alts := [], laidByText := true, laidKinds := [.data, .data, .data, .data, .sentinel, .sentinel, .pinned], laidTests := true, laidLooks := .later }
def ShWholeUptoCardSaid : Prop := Claim7.holds Tryz.pinned (.plain (OpenSpec.upto shWholeSpec)) shWholeUptoCard
end Rows
end Go.Proofs.YtmagggflamdahaaGreatDoor
