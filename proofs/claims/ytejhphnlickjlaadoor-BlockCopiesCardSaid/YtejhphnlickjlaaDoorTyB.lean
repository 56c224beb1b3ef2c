/-
  Contracts of package lex (letters, digits, words, keywords, names). Conditions: the texts stand in memory; the table of keywords reads as the program lays it.
-/
import Derived.Test.YtejhphnlickjlaaDoorTyA
import Derived.Deep.LoopGhost
set_option linter.unusedVariables false
set_option linter.unusedSimpArgs false
namespace Go.Proofs.YtejhphnlickjlaaDoor.ty
open Go.ChangeShapes Go.WideShapes Go.RowKit
open M T
set_option linter.unusedVariables false
theorem ret_bool {a b : Bool} (h : a = b) : Ending.returned (.bool a) = .returned (.bool b) := by rw [h]
theorem ret_int {k : IntKind} {a b : Int} (h : a = b) : Ending.returned (.int k a) = .returned (.int k b) := by rw [h]
theorem letter_any (c : Int) (w : World) (h0 : 0 ≤ c) (h1 : c ≤ 255) : Calls Tryd.prog 129 #[.int .u8 c] w fun e w' => e = .returned (.bool (isLetter c)) ∧ w' = w := by
  generalize hb : isLetter c = b
  have Hb := Lib.hid hb
  clear hb
  go_enter Tryd.func129, Tryd.ntmps129
  go_wp2_with fail
  all_goals
    go_ret
    refine ⟨ret_bool ?_, rfl⟩
    rw [← Hb.out, Bool.eq_iff_iff]
    unfold isLetter
    simp
    try omega
theorem digit_any (c : Int) (w : World) (h0 : 0 ≤ c) (h1 : c ≤ 255) : Calls Tryd.prog 134 #[.int .u8 c] w fun e w' => e = .returned (.bool (isDigit c)) ∧ w' = w := by
  generalize hb : isDigit c = b
  have Hb := Lib.hid hb
  clear hb
  go_enter Tryd.func134, Tryd.ntmps134
  go_wp2_with fail
  all_goals
    go_ret
    refine ⟨ret_bool ?_, rfl⟩
    rw [← Hb.out, Bool.eq_iff_iff]
    unfold isDigit
    simp
    try omega
/-- a text that is read, in memory -/
def Txt (w : World) (g : Nat) (s : ByteArray) (k : Nat) : Prop := w.heap[g]? = some (.cells #[.string s, .int .i64 k] 169 (0, 0))
theorem Txt.cells {w : World} {g : Nat} {s : ByteArray} {k : Nat} (h : Txt w g s k) : w.cell? ⟨g, 0, none⟩ = some (.string s) ∧ w.cell? ⟨g, 1, none⟩ = some (.int .i64 k) ∧ w.frozen? ⟨g, 1, none⟩ = false :=
  ⟨Go.Joins.cell_of_block h 0, Go.Joins.cell_of_block h 1, Go.Joins.unfrozen_of_block h 1⟩
theorem Txt.drewN {w : World} {g : Nat} {s : ByteArray} {k : Nat} (h : Txt w g s k) (q : Nat) : Txt (w.drewN q) g s k := h
theorem Txt.setK {w : World} {g : Nat} {s : ByteArray} {k : Nat} (h : Txt w g s k) (k' : Nat) : Txt (w.setCell ⟨g, 1, none⟩ (.int .i64 k')) g s k' := Go.Joins.block_setCell h _
theorem Txt.lt {w : World} {g : Nat} {s : ByteArray} {k : Nat} (h : Txt w g s k) : g < w.heap.size := (Array.getElem?_eq_some_iff.1 h).1
theorem more_any (g : Nat) (s : ByteArray) (k : Nat) (b : Bool) (w : World) (h : Txt w g s k) (hb : decide (k < s.size) = b) :
    Calls Tryd.prog 133 #[.pointer (some ⟨g, 0, none⟩)] w fun e w' => e = .returned (.bool b) ∧ ∃ q, w' = w.drewN q := by
  obtain ⟨c0, c1, -⟩ := h.cells
  have Hb := Lib.hid hb
  clear h hb
  go_enter Tryd.func133, Tryd.ntmps133
  go_wp2_with fail
  go_quiet (fail)
  go_wp2_with fail
  go_ret
  exact ⟨ret_bool (by rw [← Hb.out]), _, rfl⟩
/-- a byte of a word -/
def wch (c : Int) : Bool := isLetter c || isDigit c
/-- how many bytes of a word stand at the head -/
def wlen (l : List Int) : Nat := (l.takeWhile wch).length
theorem wlen_cons (c : Int) (l : List Int) : wlen (c :: l) = if wch c = true then wlen l + 1 else 0 := by
  unfold wlen
  rw [List.takeWhile_cons]
  split <;> simp_all
theorem wlen_le : ∀ (l : List Int), wlen l ≤ l.length
  | [] => by simp [wlen]
  | c :: l => by rw [wlen_cons]; have := wlen_le l; split <;> simp <;> omega
set_option maxHeartbeats 800000 in
theorem word_any (g : Nat) (s : ByteArray) (k0 : Nat) (w : World) (h : Txt w g s k0) (hk0 : k0 ≤ s.size) (hs : s.size ≤ maxLen) :
    Calls Tryd.prog 130 #[.pointer (some ⟨g, 0, none⟩)] w fun e w' => e = .returned (.string (s.extract k0 (k0 + wlen (sfx s k0)))) ∧ w.grownBy w' (some g) := by
  obtain ⟨c0, c1, -⟩ := h.cells
  have H := Lib.hid h
  clear h
  unfold maxLen at hs
  have HL := Lib.hid letter_any
  have HD := Lib.hid digit_any
  have Hm : Hid (k0 + wlen (sfx s k0) ≤ s.size) := Lib.hid (by have := wlen_le (sfx s k0); rw [sfx_length] at this; omega)
  generalize hm : k0 + wlen (sfx s k0) = m at *
  have Hmm := Lib.hid hm
  clear hm
  go_enter Tryd.func130, Tryd.ntmps130
  go_wp2_with fail
  go_loopg [8] (s.size - k0) (fun n x wr => ∃ k : Nat, k0 ≤ k ∧ k ≤ s.size ∧ n = s.size - k ∧ Txt wr g s k ∧ w.grownBy wr (some g) ∧ k + wlen (sfx s k) = m)
  case atStart => exact ⟨k0, Nat.le_refl _, hk0, rfl, H.out, World.grownBy.refl _ _, Hmm.out⟩
  case round =>
    obtain ⟨k, hk1, hk2, rfl, ht, hg, hmk⟩ := hrel
    have HT := Lib.hid ht
    have Hmk := Lib.hid hmk
    obtain ⟨d0, d1, df⟩ := ht.cells
    have hm2 := Hm.out
    clear ht hmk c0 c1
    by_cases hlt : k < s.size
    · have HM : Hid (∀ q, Calls Tryd.prog 133 #[.pointer (some ⟨g, 0, none⟩)] (wr.drewN q) fun e w' => e = .returned (.bool true) ∧ ∃ q', w' = (wr.drewN q).drewN q') := Lib.hid (fun q => more_any g s k true _ (HT.out.drewN q) (by simp [hlt]))
      have HC := Lib.hid (sfx_cons s k hlt)
      obtain ⟨b0, b1⟩ := byte_bd s[k]
      have HLc : Hid (∀ W, Calls Tryd.prog 129 #[.int .u8 (s[k].toNat : Int)] W fun e w' => e = .returned (.bool (isLetter (s[k].toNat : Int))) ∧ w' = W) := Lib.hid (fun W => HL.out _ W b0 b1)
      have HDc : Hid (∀ W, Calls Tryd.prog 134 #[.int .u8 (s[k].toNat : Int)] W fun e w' => e = .returned (.bool (isDigit (s[k].toNat : Int))) ∧ w' = W) := Lib.hid (fun W => HD.out _ W b0 b1)
      have Hw : Hid (∀ b, wch (s[k].toNat : Int) = b → k + (if b = true then wlen (sfx s (k + 1)) + 1 else 0) = m) := Lib.hid (fun b hb => by
        have := Hmk.out
        rw [HC.out, wlen_cons, hb] at this
        exact this)
      by_cases hl : isLetter (s[k].toNat : Int) = true
      · rw [hl] at HLc
        have Hwt := Lib.hid (Hw.out true (by simp [wch, hl]))
        clear hl
        go_wp2_with fail
        go_quiet ((first | (go_at_call 133; exact Calls.quiet_of (HM.out _)) | (go_at_call 129; exact Calls.quiet_of_same (HLc.out _))))
        go_wp2_with fail
        go_roundg (s.size - (k + 1))
        case measure => omega
        case rel => exact ⟨k + 1, by omega, by omega, rfl, (HT.out.drewN _).setK (k + 1), gb_set (gb_drewN hg _) _ _, by have := Hwt.out; simp at this; omega⟩
      · have hl' : isLetter (s[k].toNat : Int) = false := by simpa using hl
        rw [hl'] at HLc
        by_cases hd : isDigit (s[k].toNat : Int) = true
        · rw [hd] at HDc
          have Hwt := Lib.hid (Hw.out true (by simp [wch, hd]))
          clear hl hl' hd
          go_wp2_with fail
          go_quiet ((first | (go_at_call 133; exact Calls.quiet_of (HM.out _)) | (go_at_call 129; exact Calls.quiet_of_same (HLc.out _)) | (go_at_call 134; exact Calls.quiet_of_same (HDc.out _))))
          go_wp2_with fail
          go_roundg (s.size - (k + 1))
          case measure => omega
          case rel => exact ⟨k + 1, by omega, by omega, rfl, (HT.out.drewN _).setK (k + 1), gb_set (gb_drewN hg _) _ _, by have := Hwt.out; simp at this; omega⟩
        · have hd' : isDigit (s[k].toNat : Int) = false := by simpa using hd
          rw [hd'] at HDc
          have Hkm : Hid (k = m) := Lib.hid (by have := Hw.out false (by simp [wch, hl', hd']); simpa using this)
          have z1 : (k0 : Int) ≤ k := by omega
          clear hl hl' hd hd'
          go_wp2_with fail
          go_quiet ((first | (go_at_call 133; exact Calls.quiet_of (HM.out _)) | (go_at_call 129; exact Calls.quiet_of_same (HLc.out _)) | (go_at_call 134; exact Calls.quiet_of_same (HDc.out _))))
          go_wp2_with fail
          go_quiet (fail)
          go_wp2_with fail
          go_ret
          have hkm := Hkm.out
          subst hkm
          exact ⟨rfl, gb_drewN (gb_drewN hg _) _⟩
    · have HM : Hid (∀ q, Calls Tryd.prog 133 #[.pointer (some ⟨g, 0, none⟩)] (wr.drewN q) fun e w' => e = .returned (.bool false) ∧ ∃ q', w' = (wr.drewN q).drewN q') := Lib.hid (fun q => more_any g s k false _ (HT.out.drewN q) (by simp; omega))
      have Hkm : Hid (k = m) := Lib.hid (by
        have := Hmk.out
        rw [sfx_nil s k (by omega)] at this
        simpa [wlen] using this)
      have z1 : (k0 : Int) ≤ k := by omega
      go_wp2_with fail
      go_quiet ((go_at_call 133; exact Calls.quiet_of (HM.out _)))
      go_wp2_with fail
      go_quiet (fail)
      go_wp2_with fail
      go_ret
      have hkm := Hkm.out
      subst hkm
      exact ⟨rfl, gb_drewN (gb_drewN hg _) _⟩
end Go.Proofs.YtejhphnlickjlaaDoor.ty
