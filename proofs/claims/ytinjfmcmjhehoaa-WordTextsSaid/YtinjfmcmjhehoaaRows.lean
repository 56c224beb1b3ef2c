/-
  No cell of these rows narrows 'for every input' (looked for: loops, veiled, ifaces, maps, wideKeys, modest, calm, conditions, laid).
  DERIVED. THE GIVEN ROWS OF THIS SEAT. 7 by the template 'for every input the law returns true; each argument reads behind the call as it read before'; 0 by the template 'total and deterministic' (their statements: YtinjfmcmjhehoaaTotals.lean).
  GIVEN WITH THE SEED: the statements are not yours to turn. If you find one false, say at which input.
  Laid BY PROGRAM, IN A SANDBOX (cutbox-rows.mjs): the forced cells as the released guide's own fill.sh prints them over the translation ff7d32f250f04b8a… (all of the seat's roots in one cut). By AI agents, Wed Nov 11 2026. No macro, syntax, notation, axiom, sorry.
-/
import Derived.Test.YtinjfmcmjhehoaaChecked
import GoSem.Claim
import GoSem.ClaimJoined
import GoSem.ClaimMapViews
import Derived.JoinedTies
import Derived.KernelRfl
namespace Go.Proofs.Ytinjfmcmjhehoaa
/- THE CELL 'sum', in the pinned program and in every row, IS THE sha256 OF THE DUMP (.gsa) THAT YtinjfmcmjhehoaaProg.lean LOADS. Nothing in Lean hashes anything: it is a label: what it is worth is what the hold of that sum in a sandbox is worth. -/
noncomputable def Try.pinned : Pinned := { name := "ytinjfmcmjhehoaa", sum := "ff7d32f250f04b8a20146e036209a1f4439e18904ccdebddfc480d3876d79a11", checked := Try.checked }
namespace Rows
def none {H : Type} : Left H := { results := [], args := [] }

/-- 'catapultlaw01.WordTexts': WHATEVER THE INPUT: true; the input reads as it did. -/
def wordTextsSpec : ChangeSpec := { name := "wordTexts", fn := fun _ => fun
  | [d1, d2, d3] => { results := [.lit (.bool true)], args := [d1, d2, d3] }
  | _ => none }
def wordTextsRow : OpenClaim := { program := "ytinjfmcmjhehoaa", sum := "ff7d32f250f04b8a20146e036209a1f4439e18904ccdebddfc480d3876d79a11", func := "catapult/catapultlaw01.WordTexts", spec := "wordTexts", apart := false }
def WordTextsSaid : Prop := wordTextsRow.holds Try.pinned (OpenSpec.ofChange wordTextsSpec)

/-- ITS FALSE NEIGHBOUR: 'it returns false'. Refute it at one input. -/
def wordTextsWrong : ChangeSpec := { name := "wordTexts", fn := fun _ => fun
  | [d1, d2, d3] => { results := [.lit (.bool false)], args := [d1, d2, d3] }
  | _ => none }
def WordTextsWrongFalsely : Prop := wordTextsRow.holds Try.pinned (OpenSpec.ofChange wordTextsWrong)

/-- 'catapultlaw01.WordShifts': WHATEVER THE INPUT: true; the input reads as it did. -/
def wordShiftsSpec : ChangeSpec := { name := "wordShifts", fn := fun _ => fun
  | [d1, d2, d3, d4] => { results := [.lit (.bool true)], args := [d1, d2, d3, d4] }
  | _ => none }
def wordShiftsRow : OpenClaim := { program := "ytinjfmcmjhehoaa", sum := "ff7d32f250f04b8a20146e036209a1f4439e18904ccdebddfc480d3876d79a11", func := "catapult/catapultlaw01.WordShifts", spec := "wordShifts", apart := false }
def WordShiftsSaid : Prop := wordShiftsRow.holds Try.pinned (OpenSpec.ofChange wordShiftsSpec)

/-- ITS FALSE NEIGHBOUR: 'it returns false'. Refute it at one input. -/
def wordShiftsWrong : ChangeSpec := { name := "wordShifts", fn := fun _ => fun
  | [d1, d2, d3, d4] => { results := [.lit (.bool false)], args := [d1, d2, d3, d4] }
  | _ => none }
def WordShiftsWrongFalsely : Prop := wordShiftsRow.holds Try.pinned (OpenSpec.ofChange wordShiftsWrong)

/-- 'catapultlaw16.GapTakes': WHATEVER THE INPUT: true; the input reads as it did. -/
def gapTakesSpec : ChangeSpec := { name := "gapTakes", fn := fun _ => fun
  | [d1, d2, d3] => { results := [.lit (.bool true)], args := [d1, d2, d3] }
  | _ => none }
def gapTakesRow : OpenClaim := { program := "ytinjfmcmjhehoaa", sum := "ff7d32f250f04b8a20146e036209a1f4439e18904ccdebddfc480d3876d79a11", func := "catapult/catapultlaw16.GapTakes", spec := "gapTakes", unfollowed := true, recurses := true, apart := false }
def GapTakesSaid : Prop := gapTakesRow.holds Try.pinned (OpenSpec.ofChange gapTakesSpec)

/-- ITS FALSE NEIGHBOUR: 'it returns false'. Refute it at one input. -/
def gapTakesWrong : ChangeSpec := { name := "gapTakes", fn := fun _ => fun
  | [d1, d2, d3] => { results := [.lit (.bool false)], args := [d1, d2, d3] }
  | _ => none }
def GapTakesWrongFalsely : Prop := gapTakesRow.holds Try.pinned (OpenSpec.ofChange gapTakesWrong)

/-- 'catapultlaw16.GapAll': WHATEVER THE INPUT: true; the input reads as it did. -/
def gapAllSpec : ChangeSpec := { name := "gapAll", fn := fun _ => fun
  | [d1, d2] => { results := [.lit (.bool true)], args := [d1, d2] }
  | _ => none }
def gapAllRow : OpenClaim := { program := "ytinjfmcmjhehoaa", sum := "ff7d32f250f04b8a20146e036209a1f4439e18904ccdebddfc480d3876d79a11", func := "catapult/catapultlaw16.GapAll", spec := "gapAll", unfollowed := true, recurses := true, apart := false }
def GapAllSaid : Prop := gapAllRow.holds Try.pinned (OpenSpec.ofChange gapAllSpec)

/-- ITS FALSE NEIGHBOUR: 'it returns false'. Refute it at one input. -/
def gapAllWrong : ChangeSpec := { name := "gapAll", fn := fun _ => fun
  | [d1, d2] => { results := [.lit (.bool false)], args := [d1, d2] }
  | _ => none }
def GapAllWrongFalsely : Prop := gapAllRow.holds Try.pinned (OpenSpec.ofChange gapAllWrong)

/-- 'catapultlaw16.GapGives': WHATEVER THE INPUT: true; the input reads as it did. -/
def gapGivesSpec : ChangeSpec := { name := "gapGives", fn := fun _ => fun
  | [d1, d2, d3] => { results := [.lit (.bool true)], args := [d1, d2, d3] }
  | _ => none }
def gapGivesRow : OpenClaim := { program := "ytinjfmcmjhehoaa", sum := "ff7d32f250f04b8a20146e036209a1f4439e18904ccdebddfc480d3876d79a11", func := "catapult/catapultlaw16.GapGives", spec := "gapGives", unfollowed := true, recurses := true, apart := false }
def GapGivesSaid : Prop := gapGivesRow.holds Try.pinned (OpenSpec.ofChange gapGivesSpec)

/-- ITS FALSE NEIGHBOUR: 'it returns false'. Refute it at one input. -/
def gapGivesWrong : ChangeSpec := { name := "gapGives", fn := fun _ => fun
  | [d1, d2, d3] => { results := [.lit (.bool false)], args := [d1, d2, d3] }
  | _ => none }
def GapGivesWrongFalsely : Prop := gapGivesRow.holds Try.pinned (OpenSpec.ofChange gapGivesWrong)

/-- 'catapultlaw16.GapDisjoint': WHATEVER THE INPUT: true; the input reads as it did. -/
def gapDisjointSpec : ChangeSpec := { name := "gapDisjoint", fn := fun _ => fun
  | [d1, d2] => { results := [.lit (.bool true)], args := [d1, d2] }
  | _ => none }
def gapDisjointRow : OpenClaim := { program := "ytinjfmcmjhehoaa", sum := "ff7d32f250f04b8a20146e036209a1f4439e18904ccdebddfc480d3876d79a11", func := "catapult/catapultlaw16.GapDisjoint", spec := "gapDisjoint", unfollowed := true, recurses := true, apart := false }
def GapDisjointSaid : Prop := gapDisjointRow.holds Try.pinned (OpenSpec.ofChange gapDisjointSpec)

/-- ITS FALSE NEIGHBOUR: 'it returns false'. Refute it at one input. -/
def gapDisjointWrong : ChangeSpec := { name := "gapDisjoint", fn := fun _ => fun
  | [d1, d2] => { results := [.lit (.bool false)], args := [d1, d2] }
  | _ => none }
def GapDisjointWrongFalsely : Prop := gapDisjointRow.holds Try.pinned (OpenSpec.ofChange gapDisjointWrong)

/-- 'catapultlaw16.GapBack': WHATEVER THE INPUT: true; the input reads as it did. -/
def gapBackSpec : ChangeSpec := { name := "gapBack", fn := fun _ => fun
  | [d1, d2, d3] => { results := [.lit (.bool true)], args := [d1, d2, d3] }
  | _ => none }
def gapBackRow : OpenClaim := { program := "ytinjfmcmjhehoaa", sum := "ff7d32f250f04b8a20146e036209a1f4439e18904ccdebddfc480d3876d79a11", func := "catapult/catapultlaw16.GapBack", spec := "gapBack", unfollowed := true, recurses := true, apart := false }
def GapBackSaid : Prop := gapBackRow.holds Try.pinned (OpenSpec.ofChange gapBackSpec)

/-- ITS FALSE NEIGHBOUR: 'it returns false'. Refute it at one input. -/
def gapBackWrong : ChangeSpec := { name := "gapBack", fn := fun _ => fun
  | [d1, d2, d3] => { results := [.lit (.bool false)], args := [d1, d2, d3] }
  | _ => none }
def GapBackWrongFalsely : Prop := gapBackRow.holds Try.pinned (OpenSpec.ofChange gapBackWrong)

/- THE SECOND FORM. 'bulk': how many values and letters a reading holds, each counted each time it is reached (what is shared counts as often as it is met; a slice's spare places count too). A statement '..UptoSaid' is the law's where the arguments, and the package variables that the reading takes, are together of bulk at most 1048576: NARROWER than '..Said'. Prove '..Said' where nothing that the law and all that it calls make is longer than what came in: it says more and counts as full. Else prove '..UptoSaid'. A law counts once. -/
mutual
def uptoBulk {H : Type} : DataW H → Nat
  | .lit (.string bytes) => bytes.length + 1
  | .lit _ => 1
  | .nil => 1
  | .ptr d => uptoBulk d + 1
  | .slice elems spare => uptoBulkAll elems + uptoBulkAll spare + 1
  | .agg parts => uptoBulkAll parts + 1
  | .iface _ d => uptoBulk d + 1
  | .map entries => uptoBulkEntries entries + 1
  | .held _ => 1
def uptoBulkAll {H : Type} : List (DataW H) → Nat
  | [] => 0
  | d :: r => uptoBulk d + uptoBulkAll r
def uptoBulkEntries {H : Type} : List (Lit × DataW H) → Nat
  | [] => 0
  | x :: r => uptoBulkEntry x + uptoBulkEntries r
def uptoBulkEntry {H : Type} : Lit × DataW H → Nat
  | (.string bytes, d) => bytes.length + uptoBulk d + 1
  | (_, d) => uptoBulk d + 1
 end
def uptoSmall : (H : Type) → List (DataW H) → Bool := fun _ ds => decide (uptoBulkAll ds ≤ 1048576)
def OpenSpec.upto (s : _root_.Go.ChangeSpec) : _root_.Go.OpenSpec := { _root_.Go.OpenSpec.ofChange s with cond := some uptoSmall }

/-- 'catapultlaw01.WordTexts', WHERE WHAT IT READS IS OF BULK AT MOST 1048576: true; the input reads as it did. -/
def wordTextsUptoRow : OpenClaim := { program := "ytinjfmcmjhehoaa", sum := "ff7d32f250f04b8a20146e036209a1f4439e18904ccdebddfc480d3876d79a11", func := "catapult/catapultlaw01.WordTexts", spec := "wordTexts", apart := false, narrowed := true }
def WordTextsUptoSaid : Prop := wordTextsUptoRow.holds Try.pinned (OpenSpec.upto wordTextsSpec)

/-- 'catapultlaw01.WordShifts', WHERE WHAT IT READS IS OF BULK AT MOST 1048576: true; the input reads as it did. -/
def wordShiftsUptoRow : OpenClaim := { program := "ytinjfmcmjhehoaa", sum := "ff7d32f250f04b8a20146e036209a1f4439e18904ccdebddfc480d3876d79a11", func := "catapult/catapultlaw01.WordShifts", spec := "wordShifts", apart := false, narrowed := true }
def WordShiftsUptoSaid : Prop := wordShiftsUptoRow.holds Try.pinned (OpenSpec.upto wordShiftsSpec)

/-- 'catapultlaw16.GapTakes', WHERE WHAT IT READS IS OF BULK AT MOST 1048576: true; the input reads as it did. -/
def gapTakesUptoRow : OpenClaim := { program := "ytinjfmcmjhehoaa", sum := "ff7d32f250f04b8a20146e036209a1f4439e18904ccdebddfc480d3876d79a11", func := "catapult/catapultlaw16.GapTakes", spec := "gapTakes", unfollowed := true, recurses := true, apart := false, narrowed := true }
def GapTakesUptoSaid : Prop := gapTakesUptoRow.holds Try.pinned (OpenSpec.upto gapTakesSpec)

/-- 'catapultlaw16.GapAll', WHERE WHAT IT READS IS OF BULK AT MOST 1048576: true; the input reads as it did. -/
def gapAllUptoRow : OpenClaim := { program := "ytinjfmcmjhehoaa", sum := "ff7d32f250f04b8a20146e036209a1f4439e18904ccdebddfc480d3876d79a11", func := "catapult/catapultlaw16.GapAll", spec := "gapAll", unfollowed := true, recurses := true, apart := false, narrowed := true }
def GapAllUptoSaid : Prop := gapAllUptoRow.holds Try.pinned (OpenSpec.upto gapAllSpec)

/-- 'catapultlaw16.GapGives', WHERE WHAT IT READS IS OF BULK AT MOST 1048576: true; the input reads as it did. -/
def gapGivesUptoRow : OpenClaim := { program := "ytinjfmcmjhehoaa", sum := "ff7d32f250f04b8a20146e036209a1f4439e18904ccdebddfc480d3876d79a11", func := "catapult/catapultlaw16.GapGives", spec := "gapGives", unfollowed := true, recurses := true, apart := false, narrowed := true }
def GapGivesUptoSaid : Prop := gapGivesUptoRow.holds Try.pinned (OpenSpec.upto gapGivesSpec)

/-- 'catapultlaw16.GapDisjoint', WHERE WHAT IT READS IS OF BULK AT MOST 1048576: true; the input reads as it did. -/
def gapDisjointUptoRow : OpenClaim := { program := "ytinjfmcmjhehoaa", sum := "ff7d32f250f04b8a20146e036209a1f4439e18904ccdebddfc480d3876d79a11", func := "catapult/catapultlaw16.GapDisjoint", spec := "gapDisjoint", unfollowed := true, recurses := true, apart := false, narrowed := true }
def GapDisjointUptoSaid : Prop := gapDisjointUptoRow.holds Try.pinned (OpenSpec.upto gapDisjointSpec)

/-- 'catapultlaw16.GapBack', WHERE WHAT IT READS IS OF BULK AT MOST 1048576: true; the input reads as it did. -/
def gapBackUptoRow : OpenClaim := { program := "ytinjfmcmjhehoaa", sum := "ff7d32f250f04b8a20146e036209a1f4439e18904ccdebddfc480d3876d79a11", func := "catapult/catapultlaw16.GapBack", spec := "gapBack", unfollowed := true, recurses := true, apart := false, narrowed := true }
def GapBackUptoSaid : Prop := gapBackUptoRow.holds Try.pinned (OpenSpec.upto gapBackSpec)

end Rows
end Go.Proofs.Ytinjfmcmjhehoaa
