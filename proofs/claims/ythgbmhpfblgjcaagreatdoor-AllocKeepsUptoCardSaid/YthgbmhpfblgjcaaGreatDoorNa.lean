/-
  Contracts of what tells names (package lex, the reference's base); the table of keywords as it stands in memory. Conditions: the table reads as the program lays it.
-/
import Derived.Test.YthgbmhpfblgjcaaGreatDoorMem
import Derived.Test.YthgbmhpfblgjcaaGreatDoorPk
import Derived.Test.YthgbmhpfblgjcaaGreatDoorProg
import Derived.Test.YthgbmhpfblgjcaaGreatDoorRows
import Derived.Deep.QuietTactic
import Derived.BigQuiet
import Derived.Lib.SmallJoins
import Derived.Outline
import Derived.IntWalk
import Derived.WalkSpells
import Derived.Deep.LoopGhost
import Derived.Laws.IdiomStrings
import Derived.ProofKit
import Derived.LaidMore
import Derived.OpenShut
import Derived.Stop.Joined
set_option linter.unusedVariables false
set_option linter.unusedSimpArgs false
namespace Go.Proofs.YthgbmhpfblgjcaaGreatDoor.ty
open Go.ChangeShapes Go.WideShapes Go.ChangeAt Go.RowKit
open M T
set_option linter.unusedVariables false
theorem gb_set {w w' : World} {g : Nat} (h : w.grownBy w' (some g)) (i : Nat) (v : Value) : w.grownBy (w'.setCell ⟨g, i, none⟩ v) (some g) :=
  h.trans ⟨rfl, rfl, rfl, by simp [World.setCell], fun k _ hne => Below.heap_setCell _ _ _ _ (fun e => hne (by rw [e]))⟩
theorem gb_drewN {w w' : World} {r : Option Nat} (h : w.grownBy w' r) (q : Nat) : w.grownBy (w'.drewN q) r := ⟨h.os, h.tape, h.output, h.size, h.block⟩
theorem nums_nil {s : ByteArray} (h : s.size = 0) : nums s = [] := List.eq_nil_of_length_eq_zero (by rw [nums_length]; exact h)
theorem ret_bool {a b : Bool} (h : a = b) : Ending.returned (.bool a) = .returned (.bool b) := by rw [h]
theorem ret_int {k : IntKind} {a b : Int} (h : a = b) : Ending.returned (.int k a) = .returned (.int k b) := by rw [h]
theorem letter_any (c : Int) (w : World) (h0 : 0 ≤ c) (h1 : c ≤ 255) : Calls Tryz.prog 141 #[.int .u8 c] w fun e w' => e = .returned (.bool (isLetter c)) ∧ w' = w := by
  generalize hb : isLetter c = b
  have Hb := Lib.hid hb
  clear hb
  go_enter Tryz.func141, Tryz.ntmps141
  go_wp2_with fail
  all_goals
    go_ret
    refine ⟨ret_bool ?_, rfl⟩
    rw [← Hb.out, Bool.eq_iff_iff]
    unfold isLetter
    simp
    try omega
theorem digit_any (c : Int) (w : World) (h0 : 0 ≤ c) (h1 : c ≤ 255) : Calls Tryz.prog 160 #[.int .u8 c] w fun e w' => e = .returned (.bool (isDigit c)) ∧ w' = w := by
  generalize hb : isDigit c = b
  have Hb := Lib.hid hb
  clear hb
  go_enter Tryz.func160, Tryz.ntmps160
  go_wp2_with fail
  all_goals
    go_ret
    refine ⟨ret_bool ?_, rfl⟩
    rw [← Hb.out, Bool.eq_iff_iff]
    unfold isDigit
    simp
    try omega
/-- a text that is read, in memory -/
def Txt (w : World) (g : Nat) (s : ByteArray) (k : Nat) : Prop := w.heap[g]? = some (.cells #[.string s, .int .i64 k] 198 (0, 0))
theorem Txt.cells {w : World} {g : Nat} {s : ByteArray} {k : Nat} (h : Txt w g s k) : w.cell? ⟨g, 0, none⟩ = some (.string s) ∧ w.cell? ⟨g, 1, none⟩ = some (.int .i64 k) ∧ w.frozen? ⟨g, 1, none⟩ = false :=
  ⟨Go.Joins.cell_of_block h 0, Go.Joins.cell_of_block h 1, Go.Joins.unfrozen_of_block h 1⟩
theorem Txt.drewN {w : World} {g : Nat} {s : ByteArray} {k : Nat} (h : Txt w g s k) (q : Nat) : Txt (w.drewN q) g s k := h
theorem Txt.setK {w : World} {g : Nat} {s : ByteArray} {k : Nat} (h : Txt w g s k) (k' : Nat) : Txt (w.setCell ⟨g, 1, none⟩ (.int .i64 k')) g s k' := Go.Joins.block_setCell h _
theorem Txt.lt {w : World} {g : Nat} {s : ByteArray} {k : Nat} (h : Txt w g s k) : g < w.heap.size := (Array.getElem?_eq_some_iff.1 h).1
theorem more_any (g : Nat) (s : ByteArray) (k : Nat) (b : Bool) (w : World) (h : Txt w g s k) (hb : decide (k < s.size) = b) :
    Calls Tryz.prog 159 #[.pointer (some ⟨g, 0, none⟩)] w fun e w' => e = .returned (.bool b) ∧ ∃ q, w' = w.drewN q := by
  obtain ⟨c0, c1, -⟩ := h.cells
  have Hb := Lib.hid hb
  clear h hb
  go_enter Tryz.func159, Tryz.ntmps159
  go_wp2_with fail
  go_quiet (fail)
  go_wp2_with fail
  go_ret
  exact ⟨ret_bool (by rw [← Hb.out]), _, rfl⟩
/-- a byte of a word -/
def wch (c : Int) : Bool := isLetter c || isDigit c
/-- how many bytes of a word stand at the head -/
def wlen (l : List Int) : Nat := (l.takeWhile wch).length
theorem wlen_cons (c : Int) (l : List Int) : wlen (c :: l) = if wch c = true then wlen l + 1 else 0 := by
  unfold wlen
  rw [List.takeWhile_cons]
  split <;> simp_all
theorem wlen_le : ∀ (l : List Int), wlen l ≤ l.length
  | [] => by simp [wlen]
  | c :: l => by rw [wlen_cons]; have := wlen_le l; split <;> simp <;> omega
set_option maxHeartbeats 800000 in
theorem word_any (g : Nat) (s : ByteArray) (k0 : Nat) (w : World) (h : Txt w g s k0) (hk0 : k0 ≤ s.size) (hs : s.size ≤ maxLen) :
    Calls Tryz.prog 142 #[.pointer (some ⟨g, 0, none⟩)] w fun e w' => e = .returned (.string (s.extract k0 (k0 + wlen (sfx s k0)))) ∧ w.grownBy w' (some g) := by
  obtain ⟨c0, c1, -⟩ := h.cells
  have H := Lib.hid h
  clear h
  unfold maxLen at hs
  have HL := Lib.hid letter_any
  have HD := Lib.hid digit_any
  have Hm : Hid (k0 + wlen (sfx s k0) ≤ s.size) := Lib.hid (by have := wlen_le (sfx s k0); rw [sfx_length] at this; omega)
  generalize hm : k0 + wlen (sfx s k0) = m at *
  have Hmm := Lib.hid hm
  clear hm
  go_enter Tryz.func142, Tryz.ntmps142
  go_wp2_with fail
  go_loopg [8] (s.size - k0) (fun n x wr => ∃ k : Nat, k0 ≤ k ∧ k ≤ s.size ∧ n = s.size - k ∧ Txt wr g s k ∧ w.grownBy wr (some g) ∧ k + wlen (sfx s k) = m)
  case atStart => exact ⟨k0, Nat.le_refl _, hk0, rfl, H.out, World.grownBy.refl _ _, Hmm.out⟩
  case round =>
    obtain ⟨k, hk1, hk2, rfl, ht, hg, hmk⟩ := hrel
    have HT := Lib.hid ht
    have Hmk := Lib.hid hmk
    obtain ⟨d0, d1, df⟩ := ht.cells
    have hm2 := Hm.out
    clear ht hmk c0 c1
    by_cases hlt : k < s.size
    · have HM : Hid (∀ q, Calls Tryz.prog 159 #[.pointer (some ⟨g, 0, none⟩)] (wr.drewN q) fun e w' => e = .returned (.bool true) ∧ ∃ q', w' = (wr.drewN q).drewN q') := Lib.hid (fun q => more_any g s k true _ (HT.out.drewN q) (by simp [hlt]))
      have HC := Lib.hid (sfx_cons s k hlt)
      obtain ⟨b0, b1⟩ := byte_bd s[k]
      have HLc : Hid (∀ W, Calls Tryz.prog 141 #[.int .u8 (s[k].toNat : Int)] W fun e w' => e = .returned (.bool (isLetter (s[k].toNat : Int))) ∧ w' = W) := Lib.hid (fun W => HL.out _ W b0 b1)
      have HDc : Hid (∀ W, Calls Tryz.prog 160 #[.int .u8 (s[k].toNat : Int)] W fun e w' => e = .returned (.bool (isDigit (s[k].toNat : Int))) ∧ w' = W) := Lib.hid (fun W => HD.out _ W b0 b1)
      have Hw : Hid (∀ b, wch (s[k].toNat : Int) = b → k + (if b = true then wlen (sfx s (k + 1)) + 1 else 0) = m) := Lib.hid (fun b hb => by
        have := Hmk.out
        rw [HC.out, wlen_cons, hb] at this
        exact this)
      by_cases hl : isLetter (s[k].toNat : Int) = true
      · rw [hl] at HLc
        have Hwt := Lib.hid (Hw.out true (by simp [wch, hl]))
        clear hl
        go_wp2_with fail
        go_quiet ((first | (go_at_call 159; exact Calls.quiet_of (HM.out _)) | (go_at_call 141; exact Calls.quiet_of_same (HLc.out _))))
        go_wp2_with fail
        go_roundg (s.size - (k + 1))
        case measure => omega
        case rel => exact ⟨k + 1, by omega, by omega, rfl, (HT.out.drewN _).setK (k + 1), gb_set (gb_drewN hg _) _ _, by have := Hwt.out; simp at this; omega⟩
      · have hl' : isLetter (s[k].toNat : Int) = false := by simpa using hl
        rw [hl'] at HLc
        by_cases hd : isDigit (s[k].toNat : Int) = true
        · rw [hd] at HDc
          have Hwt := Lib.hid (Hw.out true (by simp [wch, hd]))
          clear hl hl' hd
          go_wp2_with fail
          go_quiet ((first | (go_at_call 159; exact Calls.quiet_of (HM.out _)) | (go_at_call 141; exact Calls.quiet_of_same (HLc.out _)) | (go_at_call 160; exact Calls.quiet_of_same (HDc.out _))))
          go_wp2_with fail
          go_roundg (s.size - (k + 1))
          case measure => omega
          case rel => exact ⟨k + 1, by omega, by omega, rfl, (HT.out.drewN _).setK (k + 1), gb_set (gb_drewN hg _) _ _, by have := Hwt.out; simp at this; omega⟩
        · have hd' : isDigit (s[k].toNat : Int) = false := by simpa using hd
          rw [hd'] at HDc
          have Hkm : Hid (k = m) := Lib.hid (by have := Hw.out false (by simp [wch, hl', hd']); simpa using this)
          have z1 : (k0 : Int) ≤ k := by omega
          clear hl hl' hd hd'
          go_wp2_with fail
          go_quiet ((first | (go_at_call 159; exact Calls.quiet_of (HM.out _)) | (go_at_call 141; exact Calls.quiet_of_same (HLc.out _)) | (go_at_call 160; exact Calls.quiet_of_same (HDc.out _))))
          go_wp2_with fail
          go_quiet (fail)
          go_wp2_with fail
          go_ret
          have hkm := Hkm.out
          subst hkm
          exact ⟨rfl, gb_drewN (gb_drewN hg _) _⟩
    · have HM : Hid (∀ q, Calls Tryz.prog 159 #[.pointer (some ⟨g, 0, none⟩)] (wr.drewN q) fun e w' => e = .returned (.bool false) ∧ ∃ q', w' = (wr.drewN q).drewN q') := Lib.hid (fun q => more_any g s k false _ (HT.out.drewN q) (by simp; omega))
      have Hkm : Hid (k = m) := Lib.hid (by
        have := Hmk.out
        rw [sfx_nil s k (by omega)] at this
        simpa [wlen] using this)
      have z1 : (k0 : Int) ≤ k := by omega
      go_wp2_with fail
      go_quiet ((go_at_call 159; exact Calls.quiet_of (HM.out _)))
      go_wp2_with fail
      go_quiet (fail)
      go_wp2_with fail
      go_ret
      have hkm := Hkm.out
      subst hkm
      exact ⟨rfl, gb_drewN (gb_drewN hg _) _⟩
def strs (l : List ByteArray) : List Value := l.map .string
theorem strs_length (l : List ByteArray) : (strs l).length = l.length := by simp [strs]
theorem rd_str {w : World} {B : Nat} {A : Option Addr} {l : List ByteArray} (h : Rd w B A (strs l)) {k : Nat} (hk : k < l.length) :
    ∃ ad p x, A = some ad ∧ l[k]? = some x ∧ ad.add k = p ∧ p.block < B ∧ w.cell? p = some (.string x) := by
  obtain ⟨ad, e, hb, hc⟩ := h (by intro h0; have h1 := strs_length l; rw [h0, List.length_nil] at h1; omega)
  refine ⟨ad, ad.add k, l[k], e, List.getElem?_eq_getElem hk, rfl, ?_, ?_⟩
  · rw [M.block_add]; exact hb
  · exact hc k _ (by simp [strs, List.getElem?_eq_getElem hk])
def sameS (s x : ByteArray) : Bool := s.toList == x.toList
set_option maxHeartbeats 400000 in
theorem index_str (A : Option Addr) (n c : Nat) (l : List ByteArray) (s : ByteArray) (w : World) (hl : l.length = n) (hn : n ≤ maxLen) (hA : Rd w w.heap.size A (strs l)) :
    Calls Tryz.prog 163 #[.slice A n c, .string s] w fun e w' => e = .returned (.int .i64 (if l.findIdx (sameS s) < n then (l.findIdx (sameS s) : Int) else -1)) ∧ w' = w := by
  unfold maxLen at hn
  have Hl := Lib.hid hl
  have HA := Lib.hid hA
  clear hl hA
  generalize hans : (if l.findIdx (sameS s) < n then (l.findIdx (sameS s) : Int) else -1) = ans
  have Hans := Lib.hid hans
  clear hans
  go_enter Tryz.func163, Tryz.ntmps163
  go_wp2_with fail
  go_loop [8] (fun i => ∃ (k : Nat), k ≤ n ∧ i = .int .i64 k ∧ k ≤ l.findIdx (sameS s)) (fun i => n - (intOf i).toNat)
  case atStart => exact ⟨0, by omega, rfl, by omega⟩
  case round =>
    obtain ⟨k, hk, rfl, hi⟩ := hrel
    by_cases hlt : k < n
    · obtain ⟨ad, q, x, rfl, hxk, hp, -, a1⟩ := rd_str HA.out (k := k) (by rw [Hl.out]; exact hlt)
      have hk' : k < l.length := by rw [Hl.out]; exact hlt
      have hx : l[k]'hk' = x := (List.getElem?_eq_some_iff.1 hxk).2
      by_cases hpx : sameS s x = true
      · have Hfin : Hid (ans = (k : Int)) := Lib.hid (by
          have h1 : l.findIdx (sameS s) ≤ k := by
            rcases Nat.lt_or_ge k (l.findIdx (sameS s)) with h | h
            · have := List.not_of_lt_findIdx h
              rw [hx, hpx] at this
              cases this
            · exact h
          rw [← Hans.out, if_pos (by omega)]
          omega)
        have hpx2 : (s.toList == x.toList) = true := hpx
        clear hxk hx hpx hk'
        go_wp2_with fail
        go_ret
        exact ⟨ret_int Hfin.out.symm, rfl⟩
      · have hpx' : sameS s x = false := by simpa using hpx
        have Hfin : Hid (k + 1 ≤ l.findIdx (sameS s)) := Lib.hid (by
          rcases Nat.lt_or_ge k (l.findIdx (sameS s)) with h | h
          · exact h
          · have e : k = l.findIdx (sameS s) := by omega
            have := List.findIdx_getElem (p := sameS s) (xs := l) (w := by omega)
            simp only [← e] at this
            rw [hx, hpx'] at this
            cases this)
        have hpx2 : (s.toList == x.toList) = false := hpx'
        clear hxk hx hpx hpx' hk'
        go_wp2_with fail
        go_round
        case rel => exact ⟨k + 1, by omega, by go_num, Hfin.out⟩
        case measure => simp [intOf]; omega
    · obtain rfl : k = n := by omega
      go_wp2_with fail
      go_ret
      exact ⟨ret_int (by rw [← Hans.out, if_neg (by omega)]), rfl⟩
theorem contains_str (A : Option Addr) (n c : Nat) (l : List ByteArray) (s : ByteArray) (w : World) (hl : l.length = n) (hn : n ≤ maxLen) (hA : Rd w w.heap.size A (strs l)) :
    Calls Tryz.prog 161 #[.slice A n c, .string s] w fun e w' => e = .returned (.bool (l.any (sameS s))) ∧ w' = w := by
  have HI := Lib.hid (index_str A n c l s w hl hn hA)
  rw [show l.any (sameS s) = decide (l.findIdx (sameS s) < n) from by rw [← hl, Bool.eq_iff_iff, decide_eq_true_iff, List.any_eq_true, List.findIdx_lt_length]]
  by_cases h : l.findIdx (sameS s) < n
  · rw [if_pos h] at HI
    rw [show decide (l.findIdx (sameS s) < n) = true from by simp [h]]
    clear hl hn hA
    generalize l.findIdx (sameS s) = k at *
    clear h
    go_enter Tryz.func161, Tryz.ntmps161
    go_wp2_with (go_at_call 163; refine HI.out.mono ?_; rintro e w1 ⟨rfl, rfl⟩)
    go_ret
    exact ⟨rfl, rfl⟩
  · rw [if_neg h] at HI
    rw [show decide (l.findIdx (sameS s) < n) = false from by simp [h]]
    clear hl hn hA h
    go_enter Tryz.func161, Tryz.ntmps161
    go_wp2_with (go_at_call 163; refine HI.out.mono ?_; rintro e w1 ⟨rfl, rfl⟩)
    go_ret
    exact ⟨rfl, rfl⟩
def keyStrs : List ByteArray := keys.map strOfNums
theorem key_byte : ∀ k ∈ keys, ∀ x ∈ k, 0 ≤ x ∧ x ≤ 255 := by decide
theorem key_any (s : ByteArray) : keyStrs.any (sameS s) = keys.contains (nums s) := by
  rw [Bool.eq_iff_iff, List.any_eq_true, List.contains_iff_mem]
  constructor
  · rintro ⟨x, hx, h⟩
    obtain ⟨k, hk, rfl⟩ := List.mem_map.1 hx
    have h2 : s.toList = (strOfNums k).toList := by simpa [sameS] using h
    rw [ByteArray.toList_eq, ByteArray.toList_eq] at h2
    have e : s = strOfNums k := ByteArray.ext (Array.toList_inj.1 h2)
    rw [e, nums_str (key_byte k hk)]
    exact hk
  · intro h
    refine ⟨strOfNums (nums s), List.mem_map.2 ⟨_, h, rfl⟩, ?_⟩
    have e : strOfNums (nums s) = s := nums_inj (nums_str (nums_byte s))
    rw [e]
    simp [sameS]
/-- the table of keywords reads as the program lays it -/
def KeysIn (w : World) : Prop := Rd w w.heap.size (some ⟨1, 0, none⟩) (strs keyStrs)
theorem KeysIn.below {w w' : World} (h : KeysIn w) (hb : Below w.heap.size w w') : KeysIn w' := (Rd.below h hb).more hb.size
theorem KeysIn.drewN {w : World} (h : KeysIn w) (q : Nat) : KeysIn (w.drewN q) := h
theorem iskey_any (s : ByteArray) (w : World) (hK : KeysIn w) : Calls Tryz.prog 143 #[.string s] w fun e w' => e = .returned (.bool (keys.contains (nums s))) ∧ w' = w := by
  have HC := Lib.hid (contains_str (some ⟨1, 0, none⟩) 20 20 keyStrs s w rfl (by simp [maxLen]) hK)
  rw [key_any] at HC
  clear hK
  generalize keys.contains (nums s) = kb at *
  go_enter Tryz.func143, Tryz.ntmps143
  go_wp2_with (go_at_call 161; refine HC.out.mono ?_; rintro e w1 ⟨rfl, rfl⟩)
  go_ret
  exact ⟨rfl, rfl⟩
theorem wlen_all : ∀ (l : List Int), wlen l = l.length ↔ l.all wch = true
  | [] => by simp [wlen]
  | c :: l => by
    rw [wlen_cons, List.all_cons, Bool.and_eq_true]
    have h1 := wlen_le l
    have h2 := wlen_all l
    by_cases h : wch c = true
    · rw [if_pos h, List.length_cons]
      constructor
      · intro e; exact ⟨h, h2.1 (by omega)⟩
      · intro e; rw [h2.2 e.2]
    · rw [if_neg h]
      constructor
      · intro e; simp at e
      · intro e; exact absurd e.1 h
theorem name_yes {s : ByteArray} (h0 : 0 < s.size) (h31 : s.size ≤ 31) (hl : isLetter (s[0].toNat : Int) = true) : nameB (nums s) = (decide (wlen (nums s) = s.size) && !keys.contains (nums s)) := by
  unfold nameB
  rw [show decide ((nums s).length ≤ 31) = true from by rw [nums_length]; simp [h31], Bool.true_and]
  congr 1
  have hc := sfx_cons s 0 h0
  rw [sfx_zero] at hc
  rw [Bool.eq_iff_iff, decide_eq_true_iff, ← nums_length, wlen_all, hc]
  simp only [wordB, List.all_cons, Bool.and_eq_true, hl, true_and, wch, Bool.true_or]
  exact Iff.rfl
theorem name_no {s : ByteArray} (h : ∀ h0 : 0 < s.size, s.size ≤ 31 → isLetter (s[0].toNat : Int) = false) : nameB (nums s) = false := by
  rcases Nat.eq_zero_or_pos s.size with h0 | h0
  · have : nums s = [] := List.eq_nil_of_length_eq_zero (by rw [nums_length]; exact h0)
    rw [this]; rfl
  · rcases Nat.lt_or_ge 31 s.size with h31 | h31
    · unfold nameB
      rw [show decide ((nums s).length ≤ 31) = false from by rw [nums_length]; simp; omega]; rfl
    · have hc := sfx_cons s 0 h0
      rw [sfx_zero] at hc
      unfold nameB
      rw [hc]
      simp [wordB, h h0 h31]
theorem extract_all (s : ByteArray) : s.extract 0 s.size = s := by
  apply nums_inj
  rw [nums_extract s 0 s.size (Nat.le_refl _), sfx_zero, List.take_of_length_le (by rw [nums_length]; omega)]
theorem extract_eq (s : ByteArray) (m : Nat) (hm : m ≤ s.size) : ((s.extract 0 m).toList == s.toList) = decide (m = s.size) := by
  rw [Bool.eq_iff_iff, beq_iff_eq, decide_eq_true_iff]
  constructor
  · intro h
    rw [ByteArray.toList_eq, ByteArray.toList_eq] at h
    have := congrArg List.length h
    simp [ByteArray.data_extract] at this
    omega
  · rintro rfl
    rw [extract_all]
theorem empty_iff (s : ByteArray) : s.toList = [] ↔ s.size = 0 := by
  rw [ByteArray.toList_eq]
  constructor
  · intro h
    have := congrArg List.length h
    simpa using this
  · intro h
    exact List.eq_nil_of_length_eq_zero (by simpa using h)
set_option maxHeartbeats 800000 in
theorem isname_any (s : ByteArray) (w : World) (hK : KeysIn w) (hs : s.size ≤ maxLen) : Calls Tryz.prog 121 #[.string s] w fun e w' => e = .returned (.bool (nameB (nums s))) ∧ Below w.heap.size w w' := by
  have HK := Lib.hid hK
  clear hK
  have HW : Hid (Calls Tryz.prog 142 #[.pointer (some ⟨w.heap.size, 0, none⟩)] (w.alloc (.cells #[.string s, .int .i64 0] 198)) fun e w' => e = .returned (.string (s.extract 0 (wlen (nums s)))) ∧ Below w.heap.size w w') := Lib.hid (by
    have := word_any w.heap.size s 0 (w.alloc (.cells #[.string s, .int .i64 0] 198)) (by unfold Txt; exact heap_alloc_new w _) (Nat.zero_le _) hs
    rw [sfx_zero, Nat.zero_add] at this
    refine this.mono fun e w' ⟨h1, h2⟩ => ⟨h1, ?_⟩
    exact ((Below.refl _ _).alloc (Nat.le_refl _) _).grown h2 (by simp) (fun k hk => by injection hk with hk; omega))
  have HY : Hid (∀ W, Below w.heap.size w W → Calls Tryz.prog 143 #[.string s] W fun e w' => e = .returned (.bool (keys.contains (nums s))) ∧ w' = W) := Lib.hid (fun W hb => iskey_any s W (HK.out.below hb))
  by_cases h0 : 0 < s.size
  · have hne : ¬ s.toList = [] := by rw [empty_iff]; omega
    have hne2 : s.toList.isEmpty = false := by simpa using hne
    by_cases h31 : s.size ≤ 31
    · obtain ⟨b0, b1⟩ := byte_bd s[0]
      have HL := Lib.hid (fun W => letter_any (s[0].toNat : Int) W b0 b1)
      by_cases hl : isLetter (s[0].toNat : Int) = true
      · rw [name_yes h0 h31 hl]
        rw [hl] at HL
        have hx := extract_eq s (wlen (nums s)) (by have := wlen_le (nums s); rwa [nums_length] at this)
        clear hl
        by_cases hw : wlen (nums s) = s.size
        · have hx2 : ((s.extract 0 (wlen (nums s))).toList == s.toList) = true := by rw [hx]; simp [hw]
          rw [show decide (wlen (nums s) = s.size) = true from by simp [hw]]
          clear hx hw
          generalize wlen (nums s) = m at *
          generalize keys.contains (nums s) = kb at *
          go_enter Tryz.func121, Tryz.ntmps121
          go_wp2_with (first
            | (go_at_call 141; refine (HL.out _).mono ?_; rintro e w1 ⟨rfl, rfl⟩)
            | (go_at_call 142; refine HW.out.mono ?_; rintro e w2 ⟨rfl, hb2⟩)
            | (go_at_call 143; refine (HY.out _ hb2).mono ?_; rintro e w3 ⟨rfl, rfl⟩))
          go_ret
          exact ⟨rfl, hb2⟩
        · have hx2 : ((s.extract 0 (wlen (nums s))).toList == s.toList) = false := by rw [hx]; simp [hw]
          rw [show decide (wlen (nums s) = s.size) = false from by simp [hw]]
          clear hx hw
          generalize wlen (nums s) = m at *
          generalize keys.contains (nums s) = kb at *
          go_enter Tryz.func121, Tryz.ntmps121
          go_wp2_with (first
            | (go_at_call 141; refine (HL.out _).mono ?_; rintro e w1 ⟨rfl, rfl⟩)
            | (go_at_call 142; refine HW.out.mono ?_; rintro e w2 ⟨rfl, hb2⟩))
          go_ret
          exact ⟨rfl, hb2⟩
      · have hl' : isLetter (s[0].toNat : Int) = false := by simpa using hl
        rw [name_no (fun _ _ => hl')]
        rw [hl'] at HL
        clear hl hl'
        go_enter Tryz.func121, Tryz.ntmps121
        go_wp2_with (go_at_call 141; refine (HL.out _).mono ?_; rintro e w1 ⟨rfl, rfl⟩)
        go_ret
        exact ⟨rfl, (Below.refl _ _).alloc (Nat.le_refl _) _⟩
    · rw [name_no (fun _ h => absurd h h31)]
      go_enter Tryz.func121, Tryz.ntmps121
      go_wp2_with fail
      go_ret
      exact ⟨rfl, (Below.refl _ _).alloc (Nat.le_refl _) _⟩
  · have he : s.toList = [] := by rw [empty_iff]; omega
    rw [name_no (fun h _ => absurd h h0)]
    go_enter Tryz.func121, Tryz.ntmps121
    go_wp2_with fail
    go_ret
    exact ⟨rfl, (Below.refl _ _).alloc (Nat.le_refl _) _⟩
end Go.Proofs.YthgbmhpfblgjcaaGreatDoor.ty
namespace Go.Proofs.YthgbmhpfblgjcaaGreatDoor.ty
open Go.ChangeShapes Go.WideShapes Go.RowKit
open M T
theorem letter2_any (c : Int) (w : World) (h0 : 0 ≤ c) (h1 : c ≤ 255) : Calls Tryz.prog 134 #[.int .u8 c] w fun e w' => e = .returned (.bool (isLetter c)) ∧ w' = w := by
  generalize hb : isLetter c = b
  have Hb := Lib.hid hb
  clear hb
  go_enter Tryz.func134, Tryz.ntmps134
  go_wp2_with fail
  all_goals
    go_ret
    refine ⟨ret_bool ?_, rfl⟩
    rw [← Hb.out, Bool.eq_iff_iff]
    unfold isLetter
    simp
    try omega
theorem wordB_first {s : ByteArray} (h0 : 0 < s.size) : wordB (nums s) = (isLetter (s[0].toNat : Int) && (nums s).all wch) := by
  have hc := sfx_cons s 0 h0
  rw [sfx_zero] at hc
  rw [hc]
  by_cases hl : isLetter (s[0].toNat : Int) = true
  · simp only [wordB, List.all_cons, hl, Bool.true_and, wch, Bool.true_or]; rfl
  · simp [wordB, hl]
set_option maxHeartbeats 800000 in
theorem Word_any (s : ByteArray) (w : World) (hs : s.size ≤ maxLen) : Calls Tryz.prog 110 #[.string s] w fun e w' => e = .returned (.bool (wordB (nums s))) ∧ w' = w := by
  have HL := Lib.hid letter2_any
  unfold maxLen at hs
  by_cases h0 : 0 < s.size
  · have hne : ¬ s.toList = [] := by rw [empty_iff]; omega
    have hne2 : s.toList.isEmpty = false := by simpa using hne
    obtain ⟨b0, b1⟩ := byte_bd s[0]
    have HL0 : Hid (∀ W, Calls Tryz.prog 134 #[.int .u8 (s[0].toNat : Int)] W fun e w' => e = .returned (.bool (isLetter (s[0].toNat : Int))) ∧ w' = W) := Lib.hid (fun W => HL.out _ W b0 b1)
    rw [wordB_first h0]
    by_cases hl : isLetter (s[0].toNat : Int) = true
    · rw [hl] at HL0 ⊢
      rw [Bool.true_and]
      clear hl
      generalize hb : (nums s).all wch = b
      have Hb : Hid ((sfx s 0).all wch = b) := Lib.hid (by rw [sfx_zero]; exact hb)
      clear hb
      go_enter Tryz.func110, Tryz.ntmps110
      go_wp2_with (go_at_call 134; refine (HL0.out _).mono ?_; rintro e w1 ⟨rfl, rfl⟩)
      go_loop [3] (fun i => ∃ (k : Nat), k ≤ s.size ∧ i = .int .i64 k ∧ (sfx s k).all wch = b) (fun i => s.size - (intOf i).toNat)
      case atStart => exact ⟨0, by omega, rfl, Hb.out⟩
      case round =>
        obtain ⟨k, hk, rfl, hi⟩ := hrel
        have Hi := Lib.hid hi
        clear hi
        by_cases hlt : k < s.size
        · have HC := Lib.hid (sfx_cons s k hlt)
          obtain ⟨b0, b1⟩ := byte_bd s[k]
          have HLc : Hid (∀ W, Calls Tryz.prog 134 #[.int .u8 (s[k].toNat : Int)] W fun e w' => e = .returned (.bool (isLetter (s[k].toNat : Int))) ∧ w' = W) := Lib.hid (fun W => HL.out _ W b0 b1)
          have Hw : Hid (∀ c, wch (s[k].toNat : Int) = c → (c && (sfx s (k + 1)).all wch) = b) := Lib.hid (fun c hc => by
            have := Hi.out
            rw [HC.out, List.all_cons, hc] at this
            exact this)
          by_cases hl : isLetter (s[k].toNat : Int) = true
          · rw [hl] at HLc
            have Hwt := Lib.hid (Hw.out true (by simp [wch, hl]))
            clear hl
            go_wp2_with (go_at_call 134; refine (HLc.out _).mono ?_; rintro e w1 ⟨rfl, rfl⟩)
            go_round
            case rel => exact ⟨k + 1, by omega, by go_num, by have := Hwt.out; rwa [Bool.true_and] at this⟩
            case measure => simp [intOf]; omega
          · have hl' : isLetter (s[k].toNat : Int) = false := by simpa using hl
            rw [hl'] at HLc
            by_cases hd : isDigit (s[k].toNat : Int) = true
            · have Hwt := Lib.hid (Hw.out true (by simp [wch, hd]))
              have hd2 := of_decide_eq_true hd
              obtain ⟨c1, c2⟩ := hd2
              clear hl hl' hd
              go_wp2_with (go_at_call 134; refine (HLc.out _).mono ?_; rintro e w1 ⟨rfl, rfl⟩)
              go_round
              case rel => exact ⟨k + 1, by omega, by go_num, by have := Hwt.out; rwa [Bool.true_and] at this⟩
              case measure => simp [intOf]; omega
            · have hd' : isDigit (s[k].toNat : Int) = false := by simpa using hd
              have Hbf : Hid (b = false) := Lib.hid (by have := Hw.out false (by simp [wch, hl', hd']); simpa using this.symm)
              have hd2 := of_decide_eq_false hd'
              clear hl hl' hd hd'
              by_cases c1 : (s[k].toNat : Int) < 48
              · clear hd2
                go_wp2_with (go_at_call 134; refine (HLc.out _).mono ?_; rintro e w1 ⟨rfl, rfl⟩)
                go_ret
                exact ⟨ret_bool Hbf.out.symm, rfl⟩
              · have c2 : 57 < (s[k].toNat : Int) := by omega
                clear hd2
                go_wp2_with (go_at_call 134; refine (HLc.out _).mono ?_; rintro e w1 ⟨rfl, rfl⟩)
                go_ret
                exact ⟨ret_bool Hbf.out.symm, rfl⟩
        · obtain rfl : k = s.size := by omega
          have Hbt : Hid (b = true) := Lib.hid (by have := Hi.out; rw [sfx_nil s _ (Nat.le_refl _)] at this; exact this.symm)
          go_wp2_with fail
          go_ret
          exact ⟨ret_bool Hbt.out.symm, rfl⟩
    · have hl' : isLetter (s[0].toNat : Int) = false := by simpa using hl
      rw [hl'] at HL0 ⊢
      rw [Bool.false_and]
      clear hl hl'
      go_enter Tryz.func110, Tryz.ntmps110
      go_wp2_with (go_at_call 134; refine (HL0.out _).mono ?_; rintro e w1 ⟨rfl, rfl⟩)
      go_ret
      exact ⟨rfl, rfl⟩
  · have he : s.toList = [] := by rw [empty_iff]; omega
    rw [show wordB (nums s) = false from by rw [nums_nil (by omega)]; rfl]
    go_enter Tryz.func110, Tryz.ntmps110
    go_wp2_with fail
    go_ret
    exact ⟨rfl, rfl⟩
set_option maxHeartbeats 400000 in
theorem In_any (A : Option Addr) (n c : Nat) (l : List ByteArray) (s : ByteArray) (w : World) (hl : l.length = n) (hn : n ≤ maxLen) (hA : Rd w w.heap.size A (strs l)) :
    Calls Tryz.prog 135 #[.slice A n c, .string s] w fun e w' => e = .returned (.bool (l.any (sameS s))) ∧ w' = w := by
  unfold maxLen at hn
  have Hl := Lib.hid hl
  have HA := Lib.hid hA
  clear hl hA
  generalize hans : l.any (sameS s) = b
  have Hb : Hid ((l.drop 0).any (sameS s) = b) := Lib.hid hans
  clear hans
  go_enter Tryz.func135, Tryz.ntmps135
  go_wp2_with fail
  go_loop [5] (fun i => ∃ (k : Nat), k ≤ n ∧ i = .int .i64 k ∧ (l.drop k).any (sameS s) = b) (fun i => n - (intOf i).toNat)
  case atStart => exact ⟨0, by omega, rfl, Hb.out⟩
  case round =>
    obtain ⟨k, hk, rfl, hi⟩ := hrel
    have Hi := Lib.hid hi
    clear hi
    by_cases hlt : k < n
    · obtain ⟨ad, q, x, rfl, hxk, hp, -, a1⟩ := rd_str HA.out (k := k) (by rw [Hl.out]; exact hlt)
      have hk' : k < l.length := by rw [Hl.out]; exact hlt
      have hx : l[k]'hk' = x := (List.getElem?_eq_some_iff.1 hxk).2
      have Hc : Hid ((sameS s x || (l.drop (k + 1)).any (sameS s)) = b) := Lib.hid (by
        have := Hi.out
        rwa [List.drop_eq_getElem_cons hk', List.any_cons, hx] at this)
      have hsym : (x.toList == s.toList) = sameS s x := by unfold sameS; rw [Bool.eq_iff_iff, beq_iff_eq, beq_iff_eq]; exact eq_comm
      by_cases hpx : sameS s x = true
      · have Hfin : Hid (b = true) := Lib.hid (by have := Hc.out; rw [hpx] at this; exact this.symm)
        rw [hpx] at hsym
        clear hxk hx hpx hk'
        go_wp2_with fail
        go_ret
        exact ⟨ret_bool Hfin.out.symm, rfl⟩
      · have hpx' : sameS s x = false := by simpa using hpx
        rw [hpx'] at hsym
        have Hfin : Hid ((l.drop (k + 1)).any (sameS s) = b) := Lib.hid (by have := Hc.out; rwa [hpx', Bool.false_or] at this)
        clear hxk hx hpx hpx' hk'
        go_wp2_with fail
        go_round
        case rel => exact ⟨k + 1, by omega, by go_num, Hfin.out⟩
        case measure => simp [intOf]; omega
    · obtain rfl : k = n := by omega
      have Hfin : Hid (b = false) := Lib.hid (by
        have := Hi.out
        rw [List.drop_eq_nil_of_le (by rw [Hl.out]; exact Nat.le_refl _)] at this
        exact this.symm)
      go_wp2_with fail
      go_ret
      exact ⟨ret_bool Hfin.out.symm, rfl⟩
theorem rd_new (w : World) (R : Array Value) (t : TypeId) (l : List Value) (h : R = l.toArray) : Rd (w.alloc (.cells R t)) (w.alloc (.cells R t)).heap.size (some ⟨w.heap.size, 0, none⟩) l := by
  intro _
  refine ⟨_, rfl, by rw [show (w.alloc (.cells R t)).heap = w.heap.push (.cells R t) from rfl, Array.size_push]; exact Nat.lt_succ_self _, fun k v hk => ?_⟩
  have hb : (w.alloc (.cells R t)).heap[w.heap.size]? = some (.cells R t (0, 0)) := heap_alloc_new w _
  have h2 := Go.Joins.cell_of_block hb k
  have e : Addr.add ⟨w.heap.size, 0, none⟩ k = ⟨w.heap.size, k, none⟩ := by
    unfold Addr.add
    split
    · rename_i h0; rw [h0]
    · simp
  rw [e, h2, h, List.getElem?_toArray]
  exact hk
theorem keys_row : #[Value.string { data := #[118, 111, 105, 100] }, Value.string { data := #[99, 104, 97, 114] },
          Value.string { data := #[115, 104, 111, 114, 116] }, Value.string { data := #[105, 110, 116] },
          Value.string { data := #[117, 110, 115, 105, 103, 110, 101, 100] },
          Value.string { data := #[115, 116, 114, 117, 99, 116] },
          Value.string { data := #[118, 111, 108, 97, 116, 105, 108, 101] }, Value.string { data := #[105, 102] },
          Value.string { data := #[101, 108, 115, 101] }, Value.string { data := #[119, 104, 105, 108, 101] },
          Value.string { data := #[100, 111] }, Value.string { data := #[102, 111, 114] },
          Value.string { data := #[115, 119, 105, 116, 99, 104] }, Value.string { data := #[99, 97, 115, 101] },
          Value.string { data := #[100, 101, 102, 97, 117, 108, 116] },
          Value.string { data := #[98, 114, 101, 97, 107] },
          Value.string { data := #[99, 111, 110, 116, 105, 110, 117, 101] },
          Value.string { data := #[114, 101, 116, 117, 114, 110] },
          Value.string { data := #[115, 105, 122, 101, 111, 102] },
          Value.string { data := #[106, 109, 112, 95, 98, 117, 102] }] = (strs keyStrs).toArray := by rfl
theorem Key_any (s : ByteArray) (w : World) : Calls Tryz.prog 111 #[.string s] w fun e w' => e = .returned (.bool (keys.contains (nums s))) ∧ Below w.heap.size w w' := by
  have HC : Hid (∀ W, Rd W W.heap.size (some ⟨w.heap.size, 0, none⟩) (strs keyStrs) → Below w.heap.size w W → Calls Tryz.prog 135 #[.slice (some ⟨w.heap.size, 0, none⟩) 20 20, .string s] W fun e w' => e = .returned (.bool (keys.contains (nums s))) ∧ Below w.heap.size w w') := Lib.hid (fun W hR hB => by
    have := In_any (some ⟨w.heap.size, 0, none⟩) 20 20 keyStrs s W rfl (by simp [maxLen]) hR
    rw [key_any] at this
    exact this.mono fun e w' ⟨h1, h2⟩ => ⟨h1, by rw [h2]; exact hB⟩)
  generalize keys.contains (nums s) = kb at *
  go_enter Tryz.func111, Tryz.ntmps111
  go_wp2_with (go_at_call 135; refine (HC.out _ (rd_new w _ _ _ keys_row) ((Below.refl _ _).alloc (Nat.le_refl _) _)).mono ?_; rintro e w1 ⟨rfl, hb⟩)
  go_ret
  exact ⟨rfl, hb⟩
theorem Name_any (s : ByteArray) (w : World) (hs : s.size ≤ maxLen) : Calls Tryz.prog 68 #[.string s] w fun e w' => e = .returned (.bool (nameB (nums s))) ∧ Below w.heap.size w w' := by
  have HW := Lib.hid (Word_any s w hs)
  have HK := Lib.hid (Key_any s w)
  unfold maxLen at hs
  unfold nameB
  rw [nums_length]
  by_cases h31 : s.size ≤ 31
  · rw [decide_eq_true h31, Bool.true_and]
    cases hw : wordB (nums s) with
    | true =>
      rw [hw] at HW
      clear hw
      rw [Bool.true_and]
      generalize keys.contains (nums s) = kb at *
      go_enter Tryz.func68, Tryz.ntmps68
      go_wp2_with (first
        | (go_at_call 110; refine HW.out.mono ?_; rintro e w1 ⟨rfl, rfl⟩)
        | (go_at_call 111; refine HK.out.mono ?_; rintro e w2 ⟨rfl, hb2⟩))
      go_ret
      exact ⟨rfl, hb2⟩
    | false =>
      rw [hw] at HW
      clear hw HK
      rw [Bool.false_and]
      go_enter Tryz.func68, Tryz.ntmps68
      go_wp2_with (go_at_call 110; refine HW.out.mono ?_; rintro e w1 ⟨rfl, rfl⟩)
      go_ret
      exact ⟨rfl, Below.refl _ _⟩
  · rw [decide_eq_false h31, Bool.false_and, Bool.false_and]
    clear HW HK
    go_enter Tryz.func68, Tryz.ntmps68
    go_wp2_with fail
    go_ret
    exact ⟨rfl, Below.refl _ _⟩
end Go.Proofs.YthgbmhpfblgjcaaGreatDoor.ty
namespace Go.Proofs.YthgbmhpfblgjcaaGreatDoor.ty
open Go.ChangeShapes Go.WideShapes Go.RowKit
open M T
end Go.Proofs.YthgbmhpfblgjcaaGreatDoor.ty
