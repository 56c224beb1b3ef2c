/-
  DERIVED. GIVEN WITH THE SEED: THE CARDS: each row of YtejhphnlickjlaaDoorRows.lean that lists a variable, with what it lists TIED to the program's text (the seventh form; the later family's looks); each row that meets fmt, with fmt's text TOLD by the authors' own Lean function (tested against real Go, not proved from fmt's source: count such statements apart). THE CARD IS WHAT COUNTS. Prove the row's statement (the work); the ties are given (YtejhphnlickjlaaDoorTie.lean); close each card by the builder's one call (the guide's Derived/Test/ToyasCard.lean, 'card_holds'). Laid BY PROGRAM, IN A SANDBOX (cutbox-door.mjs). By AI agents, Wed Nov 11 2026. No macro, syntax, notation, axiom, sorry.
-/
import Derived.Test.YtejhphnlickjlaaDoorRows
import GoSem.ClaimSeven
namespace Go.Proofs.YtejhphnlickjlaaDoor
namespace Rows

/-- THE TIED CARD OF 'catapultlaw15.ValueNumbers'. -/
def valueNumbersCard : Claim7 := { stood := { row := valueNumbersRow, standIns := [], harness := (true, "7dd3d083c3b2dc06b18c7cdb1cdd24b8f4b79a2d4ea36f6ea8d1aa26a6f3b6b2"), looks := false }, kinds := [], alts := [], laidByText := true, laidKinds := [.widerDeep], laidTests := true, laidLooks := .later }
def ValueNumbersCardSaid : Prop := Claim7.holds Tryd.pinned (.plain (OpenSpec.ofChange valueNumbersSpec)) valueNumbersCard

/-- THE TIED CARD OF 'catapultlaw14.BlockCopies'. -/
def blockCopiesCard : Claim7 := { stood := { row := blockCopiesRow, standIns := [], harness := (true, "7dd3d083c3b2dc06b18c7cdb1cdd24b8f4b79a2d4ea36f6ea8d1aa26a6f3b6b2"), looks := false }, kinds := [], alts := [], laidByText := true, laidKinds := [.widerDeep], laidTests := true, laidLooks := .later }
def BlockCopiesCardSaid : Prop := Claim7.holds Tryd.pinned (.plain (OpenSpec.ofChange blockCopiesSpec)) blockCopiesCard

/-- THE TIED CARD OF 'catapultlaw14.BlockTells'. -/
def blockTellsCard : Claim7 := { stood := { row := blockTellsRow, standIns := [], harness := (true, "7dd3d083c3b2dc06b18c7cdb1cdd24b8f4b79a2d4ea36f6ea8d1aa26a6f3b6b2"), looks := false }, kinds := [], alts := [], laidByText := true, laidKinds := [.widerDeep], laidTests := true, laidLooks := .later }
def BlockTellsCardSaid : Prop := Claim7.holds Tryd.pinned (.plain (OpenSpec.ofChange blockTellsSpec)) blockTellsCard

/-- THE TIED CARD OF 'catapultlaw14.BlockMoves'. -/
def blockMovesCard : Claim7 := { stood := { row := blockMovesRow, standIns := [], harness := (true, "7dd3d083c3b2dc06b18c7cdb1cdd24b8f4b79a2d4ea36f6ea8d1aa26a6f3b6b2"), looks := false }, kinds := [], alts := [], laidByText := true, laidKinds := [.widerDeep], laidTests := true, laidLooks := .later }
def BlockMovesCardSaid : Prop := Claim7.holds Tryd.pinned (.plain (OpenSpec.ofChange blockMovesSpec)) blockMovesCard

/-- THE TIED CARD OF 'catapultlaw14.BlockKeeps'. -/
def blockKeepsCard : Claim7 := { stood := { row := blockKeepsRow, standIns := [], harness := (true, "7dd3d083c3b2dc06b18c7cdb1cdd24b8f4b79a2d4ea36f6ea8d1aa26a6f3b6b2"), looks := false }, kinds := [], alts := [], laidByText := true, laidKinds := [.widerDeep], laidTests := true, laidLooks := .later }
def BlockKeepsCardSaid : Prop := Claim7.holds Tryd.pinned (.plain (OpenSpec.ofChange blockKeepsSpec)) blockKeepsCard

/-- THE SECOND FORM's CARD OF 'catapultlaw15.ValueNumbers'. -/
def valueNumbersUptoCard : Claim7 := { stood := { row := valueNumbersUptoRow, standIns := [], harness := (true, "7dd3d083c3b2dc06b18c7cdb1cdd24b8f4b79a2d4ea36f6ea8d1aa26a6f3b6b2"), looks := false }, kinds := [], alts := [], laidByText := true, laidKinds := [.widerDeep], laidTests := true, laidLooks := .later }
def ValueNumbersUptoCardSaid : Prop := Claim7.holds Tryd.pinned (.plain (OpenSpec.upto valueNumbersSpec)) valueNumbersUptoCard

/-- THE SECOND FORM's CARD OF 'catapultlaw14.BlockCopies'. -/
def blockCopiesUptoCard : Claim7 := { stood := { row := blockCopiesUptoRow, standIns := [], harness := (true, "7dd3d083c3b2dc06b18c7cdb1cdd24b8f4b79a2d4ea36f6ea8d1aa26a6f3b6b2"), looks := false }, kinds := [], alts := [], laidByText := true, laidKinds := [.widerDeep], laidTests := true, laidLooks := .later }
def BlockCopiesUptoCardSaid : Prop := Claim7.holds Tryd.pinned (.plain (OpenSpec.upto blockCopiesSpec)) blockCopiesUptoCard

/-- THE SECOND FORM's CARD OF 'catapultlaw14.BlockTells'. -/
def blockTellsUptoCard : Claim7 := { stood := { row := blockTellsUptoRow, standIns := [], harness := (true, "7dd3d083c3b2dc06b18c7cdb1cdd24b8f4b79a2d4ea36f6ea8d1aa26a6f3b6b2"), looks := false }, kinds := [], alts := [], laidByText := true, laidKinds := [.widerDeep], laidTests := true, laidLooks := .later }
def BlockTellsUptoCardSaid : Prop := Claim7.holds Tryd.pinned (.plain (OpenSpec.upto blockTellsSpec)) blockTellsUptoCard

/-- THE SECOND FORM's CARD OF 'catapultlaw14.BlockMoves'. -/
def blockMovesUptoCard : Claim7 := { stood := { row := blockMovesUptoRow, standIns := [], harness := (true, "7dd3d083c3b2dc06b18c7cdb1cdd24b8f4b79a2d4ea36f6ea8d1aa26a6f3b6b2"), looks := false }, kinds := [], alts := [], laidByText := true, laidKinds := [.widerDeep], laidTests := true, laidLooks := .later }
def BlockMovesUptoCardSaid : Prop := Claim7.holds Tryd.pinned (.plain (OpenSpec.upto blockMovesSpec)) blockMovesUptoCard

/-- THE SECOND FORM's CARD OF 'catapultlaw14.BlockKeeps'. -/
def blockKeepsUptoCard : Claim7 := { stood := { row := blockKeepsUptoRow, standIns := [], harness := (true, "7dd3d083c3b2dc06b18c7cdb1cdd24b8f4b79a2d4ea36f6ea8d1aa26a6f3b6b2"), looks := false }, kinds := [], alts := [], laidByText := true, laidKinds := [.widerDeep], laidTests := true, laidLooks := .later }
def BlockKeepsUptoCardSaid : Prop := Claim7.holds Tryd.pinned (.plain (OpenSpec.upto blockKeepsSpec)) blockKeepsUptoCard
end Rows
end Go.Proofs.YtejhphnlickjlaaDoor
