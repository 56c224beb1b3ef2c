/-
  NARROWER THAN 'FOR EVERY INPUT', by the rows' own cells (each row's printed sentence says how): AllocKeeps: laid · AllocMore: laid · AllocExists: laid.
  DERIVED. THE GIVEN ROWS OF THIS SEAT. 3 by the template 'for every input the law returns true; each argument reads behind the call as it read before'; 0 by the template 'total and deterministic' (their statements: YthgbmhpfblgjcaaGreatDoorTotals.lean).
  GIVEN WITH THE SEED: the statements are not yours to turn. If you find one false, say at which input.
  Laid BY PROGRAM, IN A SANDBOX (cutbox-rows.mjs): the forced cells as the released guide's own fill.sh prints them over the translation b42dbf4e89b16e70… (all of the seat's roots in one cut). By AI agents, Wed Nov 11 2026. No macro, syntax, notation, axiom, sorry.
-/
import Derived.Test.YthgbmhpfblgjcaaGreatDoorChecked
import GoSem.Claim
import GoSem.ClaimJoined
import GoSem.ClaimMapViews
import Derived.JoinedTies
import Derived.KernelRfl
namespace Go.Proofs.YthgbmhpfblgjcaaGreatDoor
/- THE CELL 'sum', in the pinned program and in every row, IS THE sha256 OF THE DUMP (.gsa) THAT YthgbmhpfblgjcaaGreatDoorProg.lean LOADS. Nothing in Lean hashes anything: it is a label: what it is worth is what the hold of that sum in a sandbox is worth. -/
noncomputable def Tryz.pinned : Pinned := { name := "ythgbmhpfblgjcaagreatdoor", sum := "b42dbf4e89b16e70aade4276f042e8625a7a40cb37939f7e6ba72c9103e8f7bf", checked := Tryz.checked }
namespace Rows
def none {H : Type} : Left H := { results := [], args := [] }

/- WHAT THE LISTED PACKAGE-LEVEL VARIABLES READ AS WHEN THE CALL BEGINS. Each datum BY PROGRAM (the guide's laid-datum.mjs) off the statement by which the dump's own 'gosem.cut.vars' lays the variable. In a bare row this is a premise. The card (YthgbmhpfblgjcaaGreatDoorCards.lean) ties it to the program's text. -/
def laid_math_bits_deBruijn64tab {H : Type} : DataW H := .agg [.lit (.int .u8 0), .lit (.int .u8 1), .lit (.int .u8 56), .lit (.int .u8 2), .lit (.int .u8 57), .lit (.int .u8 49), .lit (.int .u8 28), .lit (.int .u8 3), .lit (.int .u8 61), .lit (.int .u8 58), .lit (.int .u8 42), .lit (.int .u8 50), .lit (.int .u8 38), .lit (.int .u8 29), .lit (.int .u8 17), .lit (.int .u8 4), .lit (.int .u8 62), .lit (.int .u8 47), .lit (.int .u8 59), .lit (.int .u8 36), .lit (.int .u8 45), .lit (.int .u8 43), .lit (.int .u8 51), .lit (.int .u8 22), .lit (.int .u8 53), .lit (.int .u8 39), .lit (.int .u8 33), .lit (.int .u8 30), .lit (.int .u8 24), .lit (.int .u8 18), .lit (.int .u8 12), .lit (.int .u8 5), .lit (.int .u8 63), .lit (.int .u8 55), .lit (.int .u8 48), .lit (.int .u8 27), .lit (.int .u8 60), .lit (.int .u8 41), .lit (.int .u8 37), .lit (.int .u8 16), .lit (.int .u8 46), .lit (.int .u8 35), .lit (.int .u8 44), .lit (.int .u8 21), .lit (.int .u8 52), .lit (.int .u8 32), .lit (.int .u8 23), .lit (.int .u8 11), .lit (.int .u8 54), .lit (.int .u8 26), .lit (.int .u8 40), .lit (.int .u8 15), .lit (.int .u8 34), .lit (.int .u8 20), .lit (.int .u8 31), .lit (.int .u8 10), .lit (.int .u8 25), .lit (.int .u8 14), .lit (.int .u8 19), .lit (.int .u8 9), .lit (.int .u8 13), .lit (.int .u8 8), .lit (.int .u8 7), .lit (.int .u8 6)]
def laid_catapult_lex_keys {H : Type} : DataW H := .agg [.lit (.string [118, 111, 105, 100]), .lit (.string [99, 104, 97, 114]), .lit (.string [115, 104, 111, 114, 116]), .lit (.string [105, 110, 116]), .lit (.string [117, 110, 115, 105, 103, 110, 101, 100]), .lit (.string [115, 116, 114, 117, 99, 116]), .lit (.string [118, 111, 108, 97, 116, 105, 108, 101]), .lit (.string [105, 102]), .lit (.string [101, 108, 115, 101]), .lit (.string [119, 104, 105, 108, 101]), .lit (.string [100, 111]), .lit (.string [102, 111, 114]), .lit (.string [115, 119, 105, 116, 99, 104]), .lit (.string [99, 97, 115, 101]), .lit (.string [100, 101, 102, 97, 117, 108, 116]), .lit (.string [98, 114, 101, 97, 107]), .lit (.string [99, 111, 110, 116, 105, 110, 117, 101]), .lit (.string [114, 101, 116, 117, 114, 110]), .lit (.string [115, 105, 122, 101, 111, 102]), .lit (.string [106, 109, 112, 95, 98, 117, 102])]

/-- 'catapultlaw24.AllocKeeps': WHATEVER THE INPUT: true; the input reads as it did. -/
def allocKeepsSpec : ChangeSpec := { name := "allocKeeps", fn := fun _ => fun
  | [d] => { results := [.lit (.bool true)], args := [d] }
  | _ => none }
def allocKeepsRow : OpenClaim := { program := "ythgbmhpfblgjcaagreatdoor", sum := "b42dbf4e89b16e70aade4276f042e8625a7a40cb37939f7e6ba72c9103e8f7bf", func := "catapult/catapultlaw24.AllocKeeps", spec := "allocKeeps", unfollowed := true, recurses := true, named := ["catapult/lex.keys", "math/bits.deBruijn64tab"], apart := false, laid := [("math/bits.deBruijn64tab", laid_math_bits_deBruijn64tab), ("catapult/lex.keys", laid_catapult_lex_keys)] }
def AllocKeepsSaid : Prop := allocKeepsRow.holds Tryz.pinned (OpenSpec.ofChange allocKeepsSpec)

/-- ITS FALSE NEIGHBOUR: 'it returns false'. Refute it at one input. -/
def allocKeepsWrong : ChangeSpec := { name := "allocKeeps", fn := fun _ => fun
  | [d] => { results := [.lit (.bool false)], args := [d] }
  | _ => none }
def AllocKeepsWrongFalsely : Prop := allocKeepsRow.holds Tryz.pinned (OpenSpec.ofChange allocKeepsWrong)

/-- 'catapultlaw24.AllocMore': WHATEVER THE INPUT: true; the input reads as it did. -/
def allocMoreSpec : ChangeSpec := { name := "allocMore", fn := fun _ => fun
  | [d] => { results := [.lit (.bool true)], args := [d] }
  | _ => none }
def allocMoreRow : OpenClaim := { program := "ythgbmhpfblgjcaagreatdoor", sum := "b42dbf4e89b16e70aade4276f042e8625a7a40cb37939f7e6ba72c9103e8f7bf", func := "catapult/catapultlaw24.AllocMore", spec := "allocMore", unfollowed := true, recurses := true, named := ["catapult/lex.keys", "math/bits.deBruijn64tab"], apart := false, laid := [("math/bits.deBruijn64tab", laid_math_bits_deBruijn64tab), ("catapult/lex.keys", laid_catapult_lex_keys)] }
def AllocMoreSaid : Prop := allocMoreRow.holds Tryz.pinned (OpenSpec.ofChange allocMoreSpec)

/-- ITS FALSE NEIGHBOUR: 'it returns false'. Refute it at one input. -/
def allocMoreWrong : ChangeSpec := { name := "allocMore", fn := fun _ => fun
  | [d] => { results := [.lit (.bool false)], args := [d] }
  | _ => none }
def AllocMoreWrongFalsely : Prop := allocMoreRow.holds Tryz.pinned (OpenSpec.ofChange allocMoreWrong)

/-- 'catapultlaw24.AllocExists': WHATEVER THE INPUT: true; the input reads as it did. -/
def allocExistsSpec : ChangeSpec := { name := "allocExists", fn := fun _ => fun
  | [d] => { results := [.lit (.bool true)], args := [d] }
  | _ => none }
def allocExistsRow : OpenClaim := { program := "ythgbmhpfblgjcaagreatdoor", sum := "b42dbf4e89b16e70aade4276f042e8625a7a40cb37939f7e6ba72c9103e8f7bf", func := "catapult/catapultlaw24.AllocExists", spec := "allocExists", unfollowed := true, recurses := true, named := ["catapult/lex.keys", "math/bits.deBruijn64tab"], apart := false, laid := [("math/bits.deBruijn64tab", laid_math_bits_deBruijn64tab), ("catapult/lex.keys", laid_catapult_lex_keys)] }
def AllocExistsSaid : Prop := allocExistsRow.holds Tryz.pinned (OpenSpec.ofChange allocExistsSpec)

/-- ITS FALSE NEIGHBOUR: 'it returns false'. Refute it at one input. -/
def allocExistsWrong : ChangeSpec := { name := "allocExists", fn := fun _ => fun
  | [d] => { results := [.lit (.bool false)], args := [d] }
  | _ => none }
def AllocExistsWrongFalsely : Prop := allocExistsRow.holds Tryz.pinned (OpenSpec.ofChange allocExistsWrong)

/- THE SECOND FORM. 'bulk': how many values and letters a reading holds, each counted each time it is reached (what is shared counts as often as it is met; a slice's spare places count too). A statement '..UptoSaid' is the law's where the arguments, and the package variables that the reading takes, are together of bulk at most 1048576: NARROWER than '..Said'. Prove '..Said' where nothing that the law and all that it calls make is longer than what came in: it says more and counts as full. Else prove '..UptoSaid'. A law counts once. -/
mutual
def uptoBulk {H : Type} : DataW H → Nat
  | .lit (.string bytes) => bytes.length + 1
  | .lit _ => 1
  | .nil => 1
  | .ptr d => uptoBulk d + 1
  | .slice elems spare => uptoBulkAll elems + uptoBulkAll spare + 1
  | .agg parts => uptoBulkAll parts + 1
  | .iface _ d => uptoBulk d + 1
  | .map entries => uptoBulkEntries entries + 1
  | .held _ => 1
def uptoBulkAll {H : Type} : List (DataW H) → Nat
  | [] => 0
  | d :: r => uptoBulk d + uptoBulkAll r
def uptoBulkEntries {H : Type} : List (Lit × DataW H) → Nat
  | [] => 0
  | x :: r => uptoBulkEntry x + uptoBulkEntries r
def uptoBulkEntry {H : Type} : Lit × DataW H → Nat
  | (.string bytes, d) => bytes.length + uptoBulk d + 1
  | (_, d) => uptoBulk d + 1
 end
def uptoSmall : (H : Type) → List (DataW H) → Bool := fun _ ds => decide (uptoBulkAll ds ≤ 1048576)
def OpenSpec.upto (s : _root_.Go.ChangeSpec) : _root_.Go.OpenSpec := { _root_.Go.OpenSpec.ofChange s with cond := some uptoSmall }

/-- 'catapultlaw24.AllocKeeps', WHERE WHAT IT READS IS OF BULK AT MOST 1048576: true; the input reads as it did. -/
def allocKeepsUptoRow : OpenClaim := { program := "ythgbmhpfblgjcaagreatdoor", sum := "b42dbf4e89b16e70aade4276f042e8625a7a40cb37939f7e6ba72c9103e8f7bf", func := "catapult/catapultlaw24.AllocKeeps", spec := "allocKeeps", unfollowed := true, recurses := true, named := ["catapult/lex.keys", "math/bits.deBruijn64tab"], apart := false, laid := [("math/bits.deBruijn64tab", laid_math_bits_deBruijn64tab), ("catapult/lex.keys", laid_catapult_lex_keys)], narrowed := true }
def AllocKeepsUptoSaid : Prop := allocKeepsUptoRow.holds Tryz.pinned (OpenSpec.upto allocKeepsSpec)

/-- 'catapultlaw24.AllocMore', WHERE WHAT IT READS IS OF BULK AT MOST 1048576: true; the input reads as it did. -/
def allocMoreUptoRow : OpenClaim := { program := "ythgbmhpfblgjcaagreatdoor", sum := "b42dbf4e89b16e70aade4276f042e8625a7a40cb37939f7e6ba72c9103e8f7bf", func := "catapult/catapultlaw24.AllocMore", spec := "allocMore", unfollowed := true, recurses := true, named := ["catapult/lex.keys", "math/bits.deBruijn64tab"], apart := false, laid := [("math/bits.deBruijn64tab", laid_math_bits_deBruijn64tab), ("catapult/lex.keys", laid_catapult_lex_keys)], narrowed := true }
def AllocMoreUptoSaid : Prop := allocMoreUptoRow.holds Tryz.pinned (OpenSpec.upto allocMoreSpec)

/-- 'catapultlaw24.AllocExists', WHERE WHAT IT READS IS OF BULK AT MOST 1048576: true; the input reads as it did. -/
def allocExistsUptoRow : OpenClaim := { program := "ythgbmhpfblgjcaagreatdoor", sum := "b42dbf4e89b16e70aade4276f042e8625a7a40cb37939f7e6ba72c9103e8f7bf", func := "catapult/catapultlaw24.AllocExists", spec := "allocExists", unfollowed := true, recurses := true, named := ["catapult/lex.keys", "math/bits.deBruijn64tab"], apart := false, laid := [("math/bits.deBruijn64tab", laid_math_bits_deBruijn64tab), ("catapult/lex.keys", laid_catapult_lex_keys)], narrowed := true }
def AllocExistsUptoSaid : Prop := allocExistsUptoRow.holds Tryz.pinned (OpenSpec.upto allocExistsSpec)

end Rows
end Go.Proofs.YthgbmhpfblgjcaaGreatDoor
