/-
  DERIVED. GIVEN WITH THE SEED: THE CARDS: each row of YthgbmhpfblgjcaaGreatDoorRows.lean that lists a variable, with what it lists TIED to the program's text (the seventh form; the later family's looks); each row that meets fmt, with fmt's text TOLD by the authors' own Lean function (tested against real Go, not proved from fmt's source: count such statements apart). THE CARD IS WHAT COUNTS. Prove the row's statement (the work); the ties are given (YthgbmhpfblgjcaaGreatDoorTie.lean); close each card by the builder's one call (the guide's Derived/Test/ToyasCard.lean, 'card_holds'). Laid BY PROGRAM, IN A SANDBOX (cutbox-door.mjs). By AI agents, Wed Nov 11 2026. No macro, syntax, notation, axiom, sorry.
-/
import Derived.Test.YthgbmhpfblgjcaaGreatDoorRows
import GoSem.ClaimSeven
namespace Go.Proofs.YthgbmhpfblgjcaaGreatDoor
namespace Rows

/-- THE TIED CARD OF 'catapultlaw24.AllocKeeps'. -/
def allocKeepsCard : Claim7 := { stood := { row := allocKeepsRow, standIns := [], harness := (true, "12ea3dc9619e2ddd2e4c321eb7e2213276e2eb2c2312a1975fcd83e86d07aa3a"), looks := false }, kinds := [], alts := [], laidByText := true, laidKinds := [.data, .widerDeep], laidTests := true, laidLooks := .later }
def AllocKeepsCardSaid : Prop := Claim7.holds Tryz.pinned (.plain (OpenSpec.ofChange allocKeepsSpec)) allocKeepsCard

/-- THE TIED CARD OF 'catapultlaw24.AllocMore'. -/
def allocMoreCard : Claim7 := { stood := { row := allocMoreRow, standIns := [], harness := (true, "12ea3dc9619e2ddd2e4c321eb7e2213276e2eb2c2312a1975fcd83e86d07aa3a"), looks := false }, kinds := [], alts := [], laidByText := true, laidKinds := [.data, .widerDeep], laidTests := true, laidLooks := .later }
def AllocMoreCardSaid : Prop := Claim7.holds Tryz.pinned (.plain (OpenSpec.ofChange allocMoreSpec)) allocMoreCard

/-- THE TIED CARD OF 'catapultlaw24.AllocExists'. -/
def allocExistsCard : Claim7 := { stood := { row := allocExistsRow, standIns := [], harness := (true, "12ea3dc9619e2ddd2e4c321eb7e2213276e2eb2c2312a1975fcd83e86d07aa3a"), looks := false }, kinds := [], alts := [], laidByText := true, laidKinds := [.data, .widerDeep], laidTests := true, laidLooks := .later }
def AllocExistsCardSaid : Prop := Claim7.holds Tryz.pinned (.plain (OpenSpec.ofChange allocExistsSpec)) allocExistsCard

/-- THE SECOND FORM's CARD OF 'catapultlaw24.AllocKeeps'. -/
def allocKeepsUptoCard : Claim7 := { stood := { row := allocKeepsUptoRow, standIns := [], harness := (true, "12ea3dc9619e2ddd2e4c321eb7e2213276e2eb2c2312a1975fcd83e86d07aa3a"), looks := false }, kinds := [], alts := [], laidByText := true, laidKinds := [.data, .widerDeep], laidTests := true, laidLooks := .later }
def AllocKeepsUptoCardSaid : Prop := Claim7.holds Tryz.pinned (.plain (OpenSpec.upto allocKeepsSpec)) allocKeepsUptoCard

/-- THE SECOND FORM's CARD OF 'catapultlaw24.AllocMore'. -/
def allocMoreUptoCard : Claim7 := { stood := { row := allocMoreUptoRow, standIns := [], harness := (true, "12ea3dc9619e2ddd2e4c321eb7e2213276e2eb2c2312a1975fcd83e86d07aa3a"), looks := false }, kinds := [], alts := [], laidByText := true, laidKinds := [.data, .widerDeep], laidTests := true, laidLooks := .later }
def AllocMoreUptoCardSaid : Prop := Claim7.holds Tryz.pinned (.plain (OpenSpec.upto allocMoreSpec)) allocMoreUptoCard

/-- THE SECOND FORM's CARD OF 'catapultlaw24.AllocExists'. -/
def allocExistsUptoCard : Claim7 := { stood := { row := allocExistsUptoRow, standIns := [], harness := (true, "12ea3dc9619e2ddd2e4c321eb7e2213276e2eb2c2312a1975fcd83e86d07aa3a"), looks := false }, kinds := [], alts := [], laidByText := true, laidKinds := [.data, .widerDeep], laidTests := true, laidLooks := .later }
def AllocExistsUptoCardSaid : Prop := Claim7.holds Tryz.pinned (.plain (OpenSpec.upto allocExistsSpec)) allocExistsUptoCard
end Rows
end Go.Proofs.YthgbmhpfblgjcaaGreatDoor
