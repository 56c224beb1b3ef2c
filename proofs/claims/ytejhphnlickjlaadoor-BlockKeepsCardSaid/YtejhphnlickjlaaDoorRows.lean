/-
  NARROWER THAN 'FOR EVERY INPUT', by the rows' own cells (each row's printed sentence says how): ValueNumbers: laid · BlockCopies: laid · BlockTells: laid · BlockMoves: laid · BlockKeeps: laid.
  DERIVED. THE GIVEN ROWS OF THIS SEAT. 5 by the template 'for every input the law returns true; each argument reads behind the call as it read before'; 0 by the template 'total and deterministic' (their statements: YtejhphnlickjlaaDoorTotals.lean).
  GIVEN WITH THE SEED: the statements are not yours to turn. If you find one false, say at which input.
  Laid BY PROGRAM, IN A SANDBOX (cutbox-rows.mjs): the forced cells as the released guide's own fill.sh prints them over the translation ee9417ebddb3623d… (all of the seat's roots in one cut). By AI agents, Wed Nov 11 2026. No macro, syntax, notation, axiom, sorry.
-/
import Derived.Test.YtejhphnlickjlaaDoorChecked
import GoSem.Claim
import GoSem.ClaimJoined
import GoSem.ClaimMapViews
import Derived.JoinedTies
import Derived.KernelRfl
namespace Go.Proofs.YtejhphnlickjlaaDoor
/- THE CELL 'sum', in the pinned program and in every row, IS THE sha256 OF THE DUMP (.gsa) THAT YtejhphnlickjlaaDoorProg.lean LOADS. Nothing in Lean hashes anything: it is a label: what it is worth is what the hold of that sum in a sandbox is worth. -/
noncomputable def Tryd.pinned : Pinned := { name := "ytejhphnlickjlaadoor", sum := "ee9417ebddb3623dce1e8b812c92e4480d273b5501672f1807efbc50f01a3b21", checked := Tryd.checked }
namespace Rows
def none {H : Type} : Left H := { results := [], args := [] }

/- WHAT THE LISTED PACKAGE-LEVEL VARIABLES READ AS WHEN THE CALL BEGINS. Each datum BY PROGRAM (the guide's laid-datum.mjs) off the statement by which the dump's own 'gosem.cut.vars' lays the variable. In a bare row this is a premise. The card (YtejhphnlickjlaaDoorCards.lean) ties it to the program's text. -/
def laid_catapult_lex_keys {H : Type} : DataW H := .agg [.lit (.string [118, 111, 105, 100]), .lit (.string [99, 104, 97, 114]), .lit (.string [115, 104, 111, 114, 116]), .lit (.string [105, 110, 116]), .lit (.string [117, 110, 115, 105, 103, 110, 101, 100]), .lit (.string [115, 116, 114, 117, 99, 116]), .lit (.string [118, 111, 108, 97, 116, 105, 108, 101]), .lit (.string [105, 102]), .lit (.string [101, 108, 115, 101]), .lit (.string [119, 104, 105, 108, 101]), .lit (.string [100, 111]), .lit (.string [102, 111, 114]), .lit (.string [115, 119, 105, 116, 99, 104]), .lit (.string [99, 97, 115, 101]), .lit (.string [100, 101, 102, 97, 117, 108, 116]), .lit (.string [98, 114, 101, 97, 107]), .lit (.string [99, 111, 110, 116, 105, 110, 117, 101]), .lit (.string [114, 101, 116, 117, 114, 110]), .lit (.string [115, 105, 122, 101, 111, 102]), .lit (.string [106, 109, 112, 95, 98, 117, 102])]

/-- 'catapultlaw15.ValueNumbers': WHATEVER THE INPUT: true; the input reads as it did. -/
def valueNumbersSpec : ChangeSpec := { name := "valueNumbers", fn := fun _ => fun
  | [d1, d2, d3, d4, d5] => { results := [.lit (.bool true)], args := [d1, d2, d3, d4, d5] }
  | _ => none }
def valueNumbersRow : OpenClaim := { program := "ytejhphnlickjlaadoor", sum := "ee9417ebddb3623dce1e8b812c92e4480d273b5501672f1807efbc50f01a3b21", func := "catapult/catapultlaw15.ValueNumbers", spec := "valueNumbers", inPlace := ["internal/bytealg.IndexByteString"], recurses := true, named := ["catapult/lex.keys"], apart := false, laid := [("catapult/lex.keys", laid_catapult_lex_keys)] }
def ValueNumbersSaid : Prop := valueNumbersRow.holds Tryd.pinned (OpenSpec.ofChange valueNumbersSpec)

/-- ITS FALSE NEIGHBOUR: 'it returns false'. Refute it at one input. -/
def valueNumbersWrong : ChangeSpec := { name := "valueNumbers", fn := fun _ => fun
  | [d1, d2, d3, d4, d5] => { results := [.lit (.bool false)], args := [d1, d2, d3, d4, d5] }
  | _ => none }
def ValueNumbersWrongFalsely : Prop := valueNumbersRow.holds Tryd.pinned (OpenSpec.ofChange valueNumbersWrong)

/-- 'catapultlaw14.BlockCopies': WHATEVER THE INPUT: true; the input reads as it did. -/
def blockCopiesSpec : ChangeSpec := { name := "blockCopies", fn := fun _ => fun
  | [d1, d2, d3, d4, d5] => { results := [.lit (.bool true)], args := [d1, d2, d3, d4, d5] }
  | _ => none }
def blockCopiesRow : OpenClaim := { program := "ytejhphnlickjlaadoor", sum := "ee9417ebddb3623dce1e8b812c92e4480d273b5501672f1807efbc50f01a3b21", func := "catapult/catapultlaw14.BlockCopies", spec := "blockCopies", inPlace := ["internal/bytealg.IndexByteString"], unfollowed := true, recurses := true, named := ["catapult/lex.keys"], apart := false, laid := [("catapult/lex.keys", laid_catapult_lex_keys)] }
def BlockCopiesSaid : Prop := blockCopiesRow.holds Tryd.pinned (OpenSpec.ofChange blockCopiesSpec)

/-- ITS FALSE NEIGHBOUR: 'it returns false'. Refute it at one input. -/
def blockCopiesWrong : ChangeSpec := { name := "blockCopies", fn := fun _ => fun
  | [d1, d2, d3, d4, d5] => { results := [.lit (.bool false)], args := [d1, d2, d3, d4, d5] }
  | _ => none }
def BlockCopiesWrongFalsely : Prop := blockCopiesRow.holds Tryd.pinned (OpenSpec.ofChange blockCopiesWrong)

/-- 'catapultlaw14.BlockTells': WHATEVER THE INPUT: true; the input reads as it did. -/
def blockTellsSpec : ChangeSpec := { name := "blockTells", fn := fun _ => fun
  | [d1, d2, d3, d4] => { results := [.lit (.bool true)], args := [d1, d2, d3, d4] }
  | _ => none }
def blockTellsRow : OpenClaim := { program := "ytejhphnlickjlaadoor", sum := "ee9417ebddb3623dce1e8b812c92e4480d273b5501672f1807efbc50f01a3b21", func := "catapult/catapultlaw14.BlockTells", spec := "blockTells", inPlace := ["internal/bytealg.IndexByteString"], unfollowed := true, recurses := true, named := ["catapult/lex.keys"], apart := false, laid := [("catapult/lex.keys", laid_catapult_lex_keys)] }
def BlockTellsSaid : Prop := blockTellsRow.holds Tryd.pinned (OpenSpec.ofChange blockTellsSpec)

/-- ITS FALSE NEIGHBOUR: 'it returns false'. Refute it at one input. -/
def blockTellsWrong : ChangeSpec := { name := "blockTells", fn := fun _ => fun
  | [d1, d2, d3, d4] => { results := [.lit (.bool false)], args := [d1, d2, d3, d4] }
  | _ => none }
def BlockTellsWrongFalsely : Prop := blockTellsRow.holds Tryd.pinned (OpenSpec.ofChange blockTellsWrong)

/-- 'catapultlaw14.BlockMoves': WHATEVER THE INPUT: true; the input reads as it did. -/
def blockMovesSpec : ChangeSpec := { name := "blockMoves", fn := fun _ => fun
  | [d1, d2, d3, d4, d5] => { results := [.lit (.bool true)], args := [d1, d2, d3, d4, d5] }
  | _ => none }
def blockMovesRow : OpenClaim := { program := "ytejhphnlickjlaadoor", sum := "ee9417ebddb3623dce1e8b812c92e4480d273b5501672f1807efbc50f01a3b21", func := "catapult/catapultlaw14.BlockMoves", spec := "blockMoves", inPlace := ["internal/bytealg.IndexByteString"], unfollowed := true, recurses := true, named := ["catapult/lex.keys"], apart := false, laid := [("catapult/lex.keys", laid_catapult_lex_keys)] }
def BlockMovesSaid : Prop := blockMovesRow.holds Tryd.pinned (OpenSpec.ofChange blockMovesSpec)

/-- ITS FALSE NEIGHBOUR: 'it returns false'. Refute it at one input. -/
def blockMovesWrong : ChangeSpec := { name := "blockMoves", fn := fun _ => fun
  | [d1, d2, d3, d4, d5] => { results := [.lit (.bool false)], args := [d1, d2, d3, d4, d5] }
  | _ => none }
def BlockMovesWrongFalsely : Prop := blockMovesRow.holds Tryd.pinned (OpenSpec.ofChange blockMovesWrong)

/-- 'catapultlaw14.BlockKeeps': WHATEVER THE INPUT: true; the input reads as it did. -/
def blockKeepsSpec : ChangeSpec := { name := "blockKeeps", fn := fun _ => fun
  | [d1, d2] => { results := [.lit (.bool true)], args := [d1, d2] }
  | _ => none }
def blockKeepsRow : OpenClaim := { program := "ytejhphnlickjlaadoor", sum := "ee9417ebddb3623dce1e8b812c92e4480d273b5501672f1807efbc50f01a3b21", func := "catapult/catapultlaw14.BlockKeeps", spec := "blockKeeps", inPlace := ["internal/bytealg.IndexByteString"], unfollowed := true, recurses := true, named := ["catapult/lex.keys"], apart := false, laid := [("catapult/lex.keys", laid_catapult_lex_keys)] }
def BlockKeepsSaid : Prop := blockKeepsRow.holds Tryd.pinned (OpenSpec.ofChange blockKeepsSpec)

/-- ITS FALSE NEIGHBOUR: 'it returns false'. Refute it at one input. -/
def blockKeepsWrong : ChangeSpec := { name := "blockKeeps", fn := fun _ => fun
  | [d1, d2] => { results := [.lit (.bool false)], args := [d1, d2] }
  | _ => none }
def BlockKeepsWrongFalsely : Prop := blockKeepsRow.holds Tryd.pinned (OpenSpec.ofChange blockKeepsWrong)

/- THE SECOND FORM. 'bulk': how many values and letters a reading holds, each counted each time it is reached (what is shared counts as often as it is met; a slice's spare places count too). A statement '..UptoSaid' is the law's where the arguments, and the package variables that the reading takes, are together of bulk at most 1048576: NARROWER than '..Said'. Prove '..Said' where nothing that the law and all that it calls make is longer than what came in: it says more and counts as full. Else prove '..UptoSaid'. A law counts once. -/
mutual
def uptoBulk {H : Type} : DataW H → Nat
  | .lit (.string bytes) => bytes.length + 1
  | .lit _ => 1
  | .nil => 1
  | .ptr d => uptoBulk d + 1
  | .slice elems spare => uptoBulkAll elems + uptoBulkAll spare + 1
  | .agg parts => uptoBulkAll parts + 1
  | .iface _ d => uptoBulk d + 1
  | .map entries => uptoBulkEntries entries + 1
  | .held _ => 1
def uptoBulkAll {H : Type} : List (DataW H) → Nat
  | [] => 0
  | d :: r => uptoBulk d + uptoBulkAll r
def uptoBulkEntries {H : Type} : List (Lit × DataW H) → Nat
  | [] => 0
  | x :: r => uptoBulkEntry x + uptoBulkEntries r
def uptoBulkEntry {H : Type} : Lit × DataW H → Nat
  | (.string bytes, d) => bytes.length + uptoBulk d + 1
  | (_, d) => uptoBulk d + 1
 end
def uptoSmall : (H : Type) → List (DataW H) → Bool := fun _ ds => decide (uptoBulkAll ds ≤ 1048576)
def OpenSpec.upto (s : _root_.Go.ChangeSpec) : _root_.Go.OpenSpec := { _root_.Go.OpenSpec.ofChange s with cond := some uptoSmall }

/-- 'catapultlaw15.ValueNumbers', WHERE WHAT IT READS IS OF BULK AT MOST 1048576: true; the input reads as it did. -/
def valueNumbersUptoRow : OpenClaim := { program := "ytejhphnlickjlaadoor", sum := "ee9417ebddb3623dce1e8b812c92e4480d273b5501672f1807efbc50f01a3b21", func := "catapult/catapultlaw15.ValueNumbers", spec := "valueNumbers", inPlace := ["internal/bytealg.IndexByteString"], recurses := true, named := ["catapult/lex.keys"], apart := false, laid := [("catapult/lex.keys", laid_catapult_lex_keys)], narrowed := true }
def ValueNumbersUptoSaid : Prop := valueNumbersUptoRow.holds Tryd.pinned (OpenSpec.upto valueNumbersSpec)

/-- 'catapultlaw14.BlockCopies', WHERE WHAT IT READS IS OF BULK AT MOST 1048576: true; the input reads as it did. -/
def blockCopiesUptoRow : OpenClaim := { program := "ytejhphnlickjlaadoor", sum := "ee9417ebddb3623dce1e8b812c92e4480d273b5501672f1807efbc50f01a3b21", func := "catapult/catapultlaw14.BlockCopies", spec := "blockCopies", inPlace := ["internal/bytealg.IndexByteString"], unfollowed := true, recurses := true, named := ["catapult/lex.keys"], apart := false, laid := [("catapult/lex.keys", laid_catapult_lex_keys)], narrowed := true }
def BlockCopiesUptoSaid : Prop := blockCopiesUptoRow.holds Tryd.pinned (OpenSpec.upto blockCopiesSpec)

/-- 'catapultlaw14.BlockTells', WHERE WHAT IT READS IS OF BULK AT MOST 1048576: true; the input reads as it did. -/
def blockTellsUptoRow : OpenClaim := { program := "ytejhphnlickjlaadoor", sum := "ee9417ebddb3623dce1e8b812c92e4480d273b5501672f1807efbc50f01a3b21", func := "catapult/catapultlaw14.BlockTells", spec := "blockTells", inPlace := ["internal/bytealg.IndexByteString"], unfollowed := true, recurses := true, named := ["catapult/lex.keys"], apart := false, laid := [("catapult/lex.keys", laid_catapult_lex_keys)], narrowed := true }
def BlockTellsUptoSaid : Prop := blockTellsUptoRow.holds Tryd.pinned (OpenSpec.upto blockTellsSpec)

/-- 'catapultlaw14.BlockMoves', WHERE WHAT IT READS IS OF BULK AT MOST 1048576: true; the input reads as it did. -/
def blockMovesUptoRow : OpenClaim := { program := "ytejhphnlickjlaadoor", sum := "ee9417ebddb3623dce1e8b812c92e4480d273b5501672f1807efbc50f01a3b21", func := "catapult/catapultlaw14.BlockMoves", spec := "blockMoves", inPlace := ["internal/bytealg.IndexByteString"], unfollowed := true, recurses := true, named := ["catapult/lex.keys"], apart := false, laid := [("catapult/lex.keys", laid_catapult_lex_keys)], narrowed := true }
def BlockMovesUptoSaid : Prop := blockMovesUptoRow.holds Tryd.pinned (OpenSpec.upto blockMovesSpec)

/-- 'catapultlaw14.BlockKeeps', WHERE WHAT IT READS IS OF BULK AT MOST 1048576: true; the input reads as it did. -/
def blockKeepsUptoRow : OpenClaim := { program := "ytejhphnlickjlaadoor", sum := "ee9417ebddb3623dce1e8b812c92e4480d273b5501672f1807efbc50f01a3b21", func := "catapult/catapultlaw14.BlockKeeps", spec := "blockKeeps", inPlace := ["internal/bytealg.IndexByteString"], unfollowed := true, recurses := true, named := ["catapult/lex.keys"], apart := false, laid := [("catapult/lex.keys", laid_catapult_lex_keys)], narrowed := true }
def BlockKeepsUptoSaid : Prop := blockKeepsUptoRow.holds Tryd.pinned (OpenSpec.upto blockKeepsSpec)

end Rows
end Go.Proofs.YtejhphnlickjlaaDoor
