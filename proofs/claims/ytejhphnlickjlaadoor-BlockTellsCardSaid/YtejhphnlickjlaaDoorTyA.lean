/-
  Contracts of the reader of types' codes: what comes, taking a byte, taking till a byte, numbers. Conditions: the reader stands in memory.
-/
import Derived.Test.YtejhphnlickjlaaDoorMem
import Derived.Test.YtejhphnlickjlaaDoorText
import Derived.Test.YtejhphnlickjlaaDoorShelf
import Derived.Test.YtejhphnlickjlaaDoorRows
import Derived.Deep.QuietTactic
import Derived.BigQuiet
import Derived.Lib.SmallJoins
import Derived.Outline
import Derived.IntWalk
import Derived.WalkSpells
set_option linter.unusedVariables false
set_option linter.unusedSimpArgs false
namespace Go.Proofs.YtejhphnlickjlaaDoor.ty
open Go.ChangeShapes Go.WideShapes Go.RowKit
open M T
set_option linter.unusedVariables false
/-- a reader in memory: its text, its place, the greatest depth -/
def Rdr (w : World) (g : Nat) (s : ByteArray) (k dp : Nat) : Prop := w.heap[g]? = some (.cells #[.string s, .int .i64 k, .int .i64 dp] 149 (0, 0))
theorem Rdr.cells {w : World} {g : Nat} {s : ByteArray} {k dp : Nat} (h : Rdr w g s k dp) : w.cell? ⟨g, 0, none⟩ = some (.string s) ∧ w.cell? ⟨g, 1, none⟩ = some (.int .i64 k) ∧ w.cell? ⟨g, 2, none⟩ = some (.int .i64 dp) ∧
    w.frozen? ⟨g, 0, none⟩ = false ∧ w.frozen? ⟨g, 1, none⟩ = false ∧ w.frozen? ⟨g, 2, none⟩ = false :=
  ⟨Go.Joins.cell_of_block h 0, Go.Joins.cell_of_block h 1, Go.Joins.cell_of_block h 2, Go.Joins.unfrozen_of_block h 0, Go.Joins.unfrozen_of_block h 1, Go.Joins.unfrozen_of_block h 2⟩
theorem Rdr.drewN {w : World} {g : Nat} {s : ByteArray} {k dp : Nat} (h : Rdr w g s k dp) (q : Nat) : Rdr (w.drewN q) g s k dp := h
theorem Rdr.lt {w : World} {g : Nat} {s : ByteArray} {k dp : Nat} (h : Rdr w g s k dp) : g < w.heap.size := (Array.getElem?_eq_some_iff.1 h).1
theorem Rdr.setK {w : World} {g : Nat} {s : ByteArray} {k dp : Nat} (h : Rdr w g s k dp) (k' : Nat) : Rdr (w.setCell ⟨g, 1, none⟩ (.int .i64 k')) g s k' dp := Go.Joins.block_setCell h _
theorem Rdr.setD {w : World} {g : Nat} {s : ByteArray} {k dp : Nat} (h : Rdr w g s k dp) (d' : Nat) : Rdr (w.setCell ⟨g, 2, none⟩ (.int .i64 d')) g s k d' := Go.Joins.block_setCell h _
theorem Rdr.below {w w' : World} {g : Nat} {s : ByteArray} {k dp : Nat} (h : Rdr w g s k dp) (hb : Below w.heap.size w w') : Rdr w' g s k dp := (hb.block g h.lt).trans h
theorem next_yes (g : Nat) (s : ByteArray) (k dp : Nat) (w : World) (h : Rdr w g s k dp) (hk : k < s.size) (hs : s.size ≤ maxLen) :
    Calls Tryd.prog 118 #[.pointer (some ⟨g, 0, none⟩)] w fun e w' => e = .returned (.int .u8 (s[k].toNat : Int)) ∧ ∃ q, w' = w.drewN q := by
  obtain ⟨c0, c1, -, -, -, -⟩ := h.cells
  unfold maxLen at hs
  clear h
  go_enter Tryd.func118, Tryd.ntmps118
  go_wp2_with fail
  go_quiet (fail)
  go_wp2_with fail
  go_quiet (fail)
  go_wp2_with fail
  go_ret
  exact ⟨rfl, _, World.drewN_drewN _ _ _⟩
theorem next_no (g : Nat) (s : ByteArray) (k dp : Nat) (w : World) (h : Rdr w g s k dp) (hk : s.size ≤ k) (hs : s.size ≤ maxLen) :
    Calls Tryd.prog 118 #[.pointer (some ⟨g, 0, none⟩)] w fun e w' => e = .returned (.int .u8 0) ∧ ∃ q, w' = w.drewN q := by
  obtain ⟨c0, c1, -, -, -, -⟩ := h.cells
  unfold maxLen at hs
  clear h
  go_enter Tryd.func118, Tryd.ntmps118
  go_wp2_with fail
  go_quiet (fail)
  go_wp2_with fail
  go_ret
  exact ⟨rfl, _, rfl⟩
theorem gb_drewN {w w' : World} {r : Option Nat} (h : w.grownBy w' r) (q : Nat) : w.grownBy (w'.drewN q) r := ⟨h.os, h.tape, h.output, h.size, h.block⟩
theorem gb_set {w w' : World} {g : Nat} (h : w.grownBy w' (some g)) (i : Nat) (v : Value) : w.grownBy (w'.setCell ⟨g, i, none⟩ v) (some g) :=
  h.trans ⟨rfl, rfl, rfl, by simp [World.setCell], fun k _ hne => Below.heap_setCell _ _ _ _ (fun e => hne (by rw [e]))⟩
theorem gb_below {w w' w2 : World} {r : Option Nat} (h : w.grownBy w' r) (hb : Below w'.heap.size w' w2) : w.grownBy w2 r :=
  ⟨hb.os.trans h.os, hb.tape.trans h.tape, hb.output.trans h.output, Nat.le_trans h.size hb.size, fun k hk hne => (hb.block k (Nat.lt_of_lt_of_le hk h.size)).trans (h.block k hk hne)⟩
/-- what a step of the reader leaves -/
def Step (w : World) (g : Nat) (s : ByteArray) (k dp : Nat) (w' : World) : Prop := Rdr w' g s k dp ∧ w.grownBy w' (some g)
theorem take_yes (g : Nat) (s : ByteArray) (k dp : Nat) (c : Int) (w : World) (h : Rdr w g s k dp) (hk : k < s.size) (hc : (s[k].toNat : Int) = c) (hs : s.size ≤ maxLen) :
    Calls Tryd.prog 120 #[.pointer (some ⟨g, 0, none⟩), .int .u8 c] w fun e w' => e = .returned (.bool true) ∧ Step w g s (k + 1) dp w' := by
  have HN := Lib.hid (fun q => next_yes g s k dp (w.drewN q) (h.drewN q) hk hs)
  rw [hc] at HN
  obtain ⟨c0, c1, -, -, f1, -⟩ := h.cells
  have H := Lib.hid h
  clear h hc
  unfold maxLen at hs
  have hd : decide ((s.size : Int) ≤ k) = false := by simp; omega
  have hb : (c != c) = false := by simp
  go_enter Tryd.func120, Tryd.ntmps120
  go_wp2_with fail
  go_quiet ((go_at_call 118; exact Calls.quiet_of (HN.out _)))
  go_wp2_with fail
  go_ret
  exact ⟨rfl, (H.out.drewN _).setK (k + 1), gb_set (gb_drewN (World.grownBy.refl w _) _) _ _⟩
theorem take_no (g : Nat) (s : ByteArray) (k dp : Nat) (c : Int) (w : World) (h : Rdr w g s k dp) (hc : ∀ r, sfx s k ≠ c :: r) (hc0 : c ≠ 0) (hs : s.size ≤ maxLen) :
    Calls Tryd.prog 120 #[.pointer (some ⟨g, 0, none⟩), .int .u8 c] w fun e w' => e = .returned (.bool false) ∧ Step w g s k dp w' := by
  rcases Nat.lt_or_ge k s.size with hk | hk
  · have HN := Lib.hid (fun q => next_yes g s k dp (w.drewN q) (h.drewN q) hk hs)
    have hb : ((s[k].toNat : Int) != c) = true := by
      rw [bne_iff_ne]
      intro e
      exact hc (sfx s (k + 1)) (by rw [sfx_cons s k hk, e])
    have H := Lib.hid h
    clear h hc
    go_enter Tryd.func120, Tryd.ntmps120
    go_wp2_with fail
    go_quiet ((go_at_call 118; exact Calls.quiet_of (HN.out _)))
    go_wp2_with fail
    go_ret
    exact ⟨rfl, H.out.drewN _, gb_drewN (World.grownBy.refl w _) _⟩
  · have HN := Lib.hid (fun q => next_no g s k dp (w.drewN q) (h.drewN q) hk hs)
    have hb : ((0 : Int) != c) = true := by rw [bne_iff_ne]; omega
    have H := Lib.hid h
    clear h hc
    go_enter Tryd.func120, Tryd.ntmps120
    go_wp2_with fail
    go_quiet ((go_at_call 118; exact Calls.quiet_of (HN.out _)))
    go_wp2_with fail
    go_ret
    exact ⟨rfl, H.out.drewN _, gb_drewN (World.grownBy.refl w _) _⟩
theorem till_no (g : Nat) (s : ByteArray) (k dp : Nat) (c : UInt8) (w : World) (h : Rdr w g s k dp) (hk : k ≤ s.size) (hs : s.size ≤ maxLen) (hi : Lib.indexByte (s.extract k s.size).data.toList c = -1) :
    Calls Tryd.prog 121 #[.pointer (some ⟨g, 0, none⟩), .int .u8 (c.toNat : Int)] w fun e w' => e = .returned (.tuple #[.string ⟨#[]⟩, .bool false]) ∧ Step w g s k dp w' := by
  have HI : Hid (∀ W : World, Calls Tryd.prog 119 #[.string (s.extract k s.size), .int .u8 (c.toNat : Int)] W fun e w' => e = .returned (.int .i64 (-1)) ∧ w' = W) := Lib.hid (fun W => by
    have := Tryd.strings_IndexByte (s.extract k s.size) (c.toNat : Int) W
    rwa [show (c.toNat : Int).toNat.toUInt8 = c from by simp, hi] at this)
  obtain ⟨c0, c1, -, -, f1, -⟩ := h.cells
  have H := Lib.hid h
  clear h hi
  unfold maxLen at hs
  go_enter Tryd.func121, Tryd.ntmps121
  go_wp2_with fail
  go_quiet ((go_at_call 119; exact Calls.quiet_of_same (HI.out _)))
  go_wp2_with fail
  go_ret2
  exact ⟨rfl, H.out.drewN _, gb_drewN (World.grownBy.refl w _) _⟩
theorem till_yes (g : Nat) (s : ByteArray) (k dp o : Nat) (c : UInt8) (w : World) (h : Rdr w g s k dp) (hk : k ≤ s.size) (hs : s.size ≤ maxLen) (hi : Lib.indexByte (s.extract k s.size).data.toList c = (o : Int)) (ho : k + o < s.size) :
    Calls Tryd.prog 121 #[.pointer (some ⟨g, 0, none⟩), .int .u8 (c.toNat : Int)] w fun e w' => e = .returned (.tuple #[.string (s.extract k (k + o)), .bool true]) ∧ Step w g s (k + o + 1) dp w' := by
  have HI : Hid (∀ W : World, Calls Tryd.prog 119 #[.string (s.extract k s.size), .int .u8 (c.toNat : Int)] W fun e w' => e = .returned (.int .i64 o) ∧ w' = W) := Lib.hid (fun W => by
    have := Tryd.strings_IndexByte (s.extract k s.size) (c.toNat : Int) W
    rwa [show (c.toNat : Int).toNat.toUInt8 = c from by simp, hi] at this)
  obtain ⟨c0, c1, -, -, f1, -⟩ := h.cells
  have H := Lib.hid h
  clear h hi
  unfold maxLen at hs
  go_enter Tryd.func121, Tryd.ntmps121
  go_wp2_with fail
  go_quiet ((go_at_call 119; exact Calls.quiet_of_same (HI.out _)))
  go_wp2_with fail
  have hw : IntKind.i64.wrap ((k : Int) + o) = (k : Int) + o := IntWalk.i64_in _ (by omega)
  have ht : ((k : Int) + o).toNat = k + o := by omega
  have hz : (0 : Int) ≤ (k : Int) + o := by omega
  have hz1 : (k : Int) ≤ (k : Int) + o := by omega
  have hz2 : (k : Int) + o ≤ s.size := by omega
  have hz3 : k ≤ k + o := by omega
  have hz4 : k + o ≤ s.size := by omega
  go_quiet (fail)
  go_wp2_with fail
  go_ret2
  have e : ((k + o + 1 : Nat) : Int) = (k : Int) + ((o : Int) + 1) := by omega
  exact ⟨rfl, by rw [← e]; exact (H.out.drewN _).setK _, gb_set (gb_drewN (World.grownBy.refl w _) _) _ _⟩
end Go.Proofs.YtejhphnlickjlaaDoor.ty
