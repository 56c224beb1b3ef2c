/-
  Contracts of keywords and names of package lex, and of the numbers of types' codes. Conditions: the table of keywords reads as the program lays it.
-/
import Derived.Test.YtejhphnlickjlaaDoorTyB
import Derived.Laws.IdiomStrings
namespace Go.Proofs.YtejhphnlickjlaaDoor.ty
open Go.ChangeShapes Go.WideShapes Go.RowKit
open M T
set_option linter.unusedVariables false
def strs (l : List ByteArray) : List Value := l.map .string
theorem strs_length (l : List ByteArray) : (strs l).length = l.length := by simp [strs]
theorem rd_str {w : World} {B : Nat} {A : Option Addr} {l : List ByteArray} (h : Rd w B A (strs l)) {k : Nat} (hk : k < l.length) :
    ∃ ad p x, A = some ad ∧ l[k]? = some x ∧ ad.add k = p ∧ p.block < B ∧ w.cell? p = some (.string x) := by
  obtain ⟨ad, e, hb, hc⟩ := h (by intro h0; have h1 := strs_length l; rw [h0, List.length_nil] at h1; omega)
  refine ⟨ad, ad.add k, l[k], e, List.getElem?_eq_getElem hk, rfl, ?_, ?_⟩
  · rw [M.block_add]; exact hb
  · exact hc k _ (by simp [strs, List.getElem?_eq_getElem hk])
def sameS (s x : ByteArray) : Bool := s.toList == x.toList
set_option maxHeartbeats 400000 in
theorem index_str (A : Option Addr) (n c : Nat) (l : List ByteArray) (s : ByteArray) (w : World) (hl : l.length = n) (hn : n ≤ maxLen) (hA : Rd w w.heap.size A (strs l)) :
    Calls Tryd.prog 136 #[.slice A n c, .string s] w fun e w' => e = .returned (.int .i64 (if l.findIdx (sameS s) < n then (l.findIdx (sameS s) : Int) else -1)) ∧ w' = w := by
  unfold maxLen at hn
  have Hl := Lib.hid hl
  have HA := Lib.hid hA
  clear hl hA
  generalize hans : (if l.findIdx (sameS s) < n then (l.findIdx (sameS s) : Int) else -1) = ans
  have Hans := Lib.hid hans
  clear hans
  go_enter Tryd.func136, Tryd.ntmps136
  go_wp2_with fail
  go_loop [8] (fun i => ∃ (k : Nat), k ≤ n ∧ i = .int .i64 k ∧ k ≤ l.findIdx (sameS s)) (fun i => n - (intOf i).toNat)
  case atStart => exact ⟨0, by omega, rfl, by omega⟩
  case round =>
    obtain ⟨k, hk, rfl, hi⟩ := hrel
    by_cases hlt : k < n
    · obtain ⟨ad, q, x, rfl, hxk, hp, -, a1⟩ := rd_str HA.out (k := k) (by rw [Hl.out]; exact hlt)
      have hk' : k < l.length := by rw [Hl.out]; exact hlt
      have hx : l[k]'hk' = x := (List.getElem?_eq_some_iff.1 hxk).2
      by_cases hpx : sameS s x = true
      · have Hfin : Hid (ans = (k : Int)) := Lib.hid (by
          have h1 : l.findIdx (sameS s) ≤ k := by
            rcases Nat.lt_or_ge k (l.findIdx (sameS s)) with h | h
            · have := List.not_of_lt_findIdx h
              rw [hx, hpx] at this
              cases this
            · exact h
          rw [← Hans.out, if_pos (by omega)]
          omega)
        have hpx2 : (s.toList == x.toList) = true := hpx
        clear hxk hx hpx hk'
        go_wp2_with fail
        go_ret
        exact ⟨ret_int Hfin.out.symm, rfl⟩
      · have hpx' : sameS s x = false := by simpa using hpx
        have Hfin : Hid (k + 1 ≤ l.findIdx (sameS s)) := Lib.hid (by
          rcases Nat.lt_or_ge k (l.findIdx (sameS s)) with h | h
          · exact h
          · have e : k = l.findIdx (sameS s) := by omega
            have := List.findIdx_getElem (p := sameS s) (xs := l) (w := by omega)
            simp only [← e] at this
            rw [hx, hpx'] at this
            cases this)
        have hpx2 : (s.toList == x.toList) = false := hpx'
        clear hxk hx hpx hpx' hk'
        go_wp2_with fail
        go_round
        case rel => exact ⟨k + 1, by omega, by go_num, Hfin.out⟩
        case measure => simp [intOf]; omega
    · obtain rfl : k = n := by omega
      go_wp2_with fail
      go_ret
      exact ⟨ret_int (by rw [← Hans.out, if_neg (by omega)]), rfl⟩
theorem contains_str (A : Option Addr) (n c : Nat) (l : List ByteArray) (s : ByteArray) (w : World) (hl : l.length = n) (hn : n ≤ maxLen) (hA : Rd w w.heap.size A (strs l)) :
    Calls Tryd.prog 135 #[.slice A n c, .string s] w fun e w' => e = .returned (.bool (l.any (sameS s))) ∧ w' = w := by
  have HI := Lib.hid (index_str A n c l s w hl hn hA)
  rw [show l.any (sameS s) = decide (l.findIdx (sameS s) < n) from by rw [← hl, Bool.eq_iff_iff, decide_eq_true_iff, List.any_eq_true, List.findIdx_lt_length]]
  by_cases h : l.findIdx (sameS s) < n
  · rw [if_pos h] at HI
    rw [show decide (l.findIdx (sameS s) < n) = true from by simp [h]]
    clear hl hn hA
    generalize l.findIdx (sameS s) = k at *
    clear h
    go_enter Tryd.func135, Tryd.ntmps135
    go_wp2_with (go_at_call 136; refine HI.out.mono ?_; rintro e w1 ⟨rfl, rfl⟩)
    go_ret
    exact ⟨rfl, rfl⟩
  · rw [if_neg h] at HI
    rw [show decide (l.findIdx (sameS s) < n) = false from by simp [h]]
    clear hl hn hA h
    go_enter Tryd.func135, Tryd.ntmps135
    go_wp2_with (go_at_call 136; refine HI.out.mono ?_; rintro e w1 ⟨rfl, rfl⟩)
    go_ret
    exact ⟨rfl, rfl⟩
def keyStrs : List ByteArray := keys.map strOfNums
theorem key_byte : ∀ k ∈ keys, ∀ x ∈ k, 0 ≤ x ∧ x ≤ 255 := by decide
theorem key_any (s : ByteArray) : keyStrs.any (sameS s) = keys.contains (nums s) := by
  rw [Bool.eq_iff_iff, List.any_eq_true, List.contains_iff_mem]
  constructor
  · rintro ⟨x, hx, h⟩
    obtain ⟨k, hk, rfl⟩ := List.mem_map.1 hx
    have h2 : s.toList = (strOfNums k).toList := by simpa [sameS] using h
    rw [ByteArray.toList_eq, ByteArray.toList_eq] at h2
    have e : s = strOfNums k := ByteArray.ext (Array.toList_inj.1 h2)
    rw [e, nums_str (key_byte k hk)]
    exact hk
  · intro h
    refine ⟨strOfNums (nums s), List.mem_map.2 ⟨_, h, rfl⟩, ?_⟩
    have e : strOfNums (nums s) = s := nums_inj (nums_str (nums_byte s))
    rw [e]
    simp [sameS]
/-- the table of keywords reads as the program lays it -/
def KeysIn (w : World) : Prop := Rd w w.heap.size (some ⟨0, 0, none⟩) (strs keyStrs)
theorem KeysIn.below {w w' : World} (h : KeysIn w) (hb : Below w.heap.size w w') : KeysIn w' := (Rd.below h hb).more hb.size
theorem KeysIn.drewN {w : World} (h : KeysIn w) (q : Nat) : KeysIn (w.drewN q) := h
theorem iskey_any (s : ByteArray) (w : World) (hK : KeysIn w) : Calls Tryd.prog 131 #[.string s] w fun e w' => e = .returned (.bool (keys.contains (nums s))) ∧ w' = w := by
  have HC := Lib.hid (contains_str (some ⟨0, 0, none⟩) 20 20 keyStrs s w rfl (by simp [maxLen]) hK)
  rw [key_any] at HC
  clear hK
  generalize keys.contains (nums s) = kb at *
  go_enter Tryd.func131, Tryd.ntmps131
  go_wp2_with (go_at_call 135; refine HC.out.mono ?_; rintro e w1 ⟨rfl, rfl⟩)
  go_ret
  exact ⟨rfl, rfl⟩
theorem wlen_all : ∀ (l : List Int), wlen l = l.length ↔ l.all wch = true
  | [] => by simp [wlen]
  | c :: l => by
    rw [wlen_cons, List.all_cons, Bool.and_eq_true]
    have h1 := wlen_le l
    have h2 := wlen_all l
    by_cases h : wch c = true
    · rw [if_pos h, List.length_cons]
      constructor
      · intro e; exact ⟨h, h2.1 (by omega)⟩
      · intro e; rw [h2.2 e.2]
    · rw [if_neg h]
      constructor
      · intro e; simp at e
      · intro e; exact absurd e.1 h
theorem name_yes {s : ByteArray} (h0 : 0 < s.size) (h31 : s.size ≤ 31) (hl : isLetter (s[0].toNat : Int) = true) : nameB (nums s) = (decide (wlen (nums s) = s.size) && !keys.contains (nums s)) := by
  unfold nameB
  rw [show decide ((nums s).length ≤ 31) = true from by rw [nums_length]; simp [h31], Bool.true_and]
  congr 1
  have hc := sfx_cons s 0 h0
  rw [sfx_zero] at hc
  rw [Bool.eq_iff_iff, decide_eq_true_iff, ← nums_length, wlen_all, hc]
  simp only [wordB, List.all_cons, Bool.and_eq_true, hl, true_and, wch, Bool.true_or]
  exact Iff.rfl
theorem name_no {s : ByteArray} (h : ∀ h0 : 0 < s.size, s.size ≤ 31 → isLetter (s[0].toNat : Int) = false) : nameB (nums s) = false := by
  rcases Nat.eq_zero_or_pos s.size with h0 | h0
  · have : nums s = [] := List.eq_nil_of_length_eq_zero (by rw [nums_length]; exact h0)
    rw [this]; rfl
  · rcases Nat.lt_or_ge 31 s.size with h31 | h31
    · unfold nameB
      rw [show decide ((nums s).length ≤ 31) = false from by rw [nums_length]; simp; omega]; rfl
    · have hc := sfx_cons s 0 h0
      rw [sfx_zero] at hc
      unfold nameB
      rw [hc]
      simp [wordB, h h0 h31]
theorem extract_all (s : ByteArray) : s.extract 0 s.size = s := by
  apply nums_inj
  rw [nums_extract s 0 s.size (Nat.le_refl _), sfx_zero, List.take_of_length_le (by rw [nums_length]; omega)]
theorem extract_eq (s : ByteArray) (m : Nat) (hm : m ≤ s.size) : ((s.extract 0 m).toList == s.toList) = decide (m = s.size) := by
  rw [Bool.eq_iff_iff, beq_iff_eq, decide_eq_true_iff]
  constructor
  · intro h
    rw [ByteArray.toList_eq, ByteArray.toList_eq] at h
    have := congrArg List.length h
    simp [ByteArray.data_extract] at this
    omega
  · rintro rfl
    rw [extract_all]
theorem empty_iff (s : ByteArray) : s.toList = [] ↔ s.size = 0 := by
  rw [ByteArray.toList_eq]
  constructor
  · intro h
    have := congrArg List.length h
    simpa using this
  · intro h
    exact List.eq_nil_of_length_eq_zero (by simpa using h)
set_option maxHeartbeats 800000 in
theorem isname_any (s : ByteArray) (w : World) (hK : KeysIn w) (hs : s.size ≤ maxLen) : Calls Tryd.prog 123 #[.string s] w fun e w' => e = .returned (.bool (nameB (nums s))) ∧ Below w.heap.size w w' := by
  have HK := Lib.hid hK
  clear hK
  have HW : Hid (Calls Tryd.prog 130 #[.pointer (some ⟨w.heap.size, 0, none⟩)] (w.alloc (.cells #[.string s, .int .i64 0] 169)) fun e w' => e = .returned (.string (s.extract 0 (wlen (nums s)))) ∧ Below w.heap.size w w') := Lib.hid (by
    have := word_any w.heap.size s 0 (w.alloc (.cells #[.string s, .int .i64 0] 169)) (by unfold Txt; exact heap_alloc_new w _) (Nat.zero_le _) hs
    rw [sfx_zero, Nat.zero_add] at this
    refine this.mono fun e w' ⟨h1, h2⟩ => ⟨h1, ?_⟩
    exact ((Below.refl _ _).alloc (Nat.le_refl _) _).grown h2 (by simp) (fun k hk => by injection hk with hk; omega))
  have HY : Hid (∀ W, Below w.heap.size w W → Calls Tryd.prog 131 #[.string s] W fun e w' => e = .returned (.bool (keys.contains (nums s))) ∧ w' = W) := Lib.hid (fun W hb => iskey_any s W (HK.out.below hb))
  by_cases h0 : 0 < s.size
  · have hne : ¬ s.toList = [] := by rw [empty_iff]; omega
    have hne2 : s.toList.isEmpty = false := by simpa using hne
    by_cases h31 : s.size ≤ 31
    · obtain ⟨b0, b1⟩ := byte_bd s[0]
      have HL := Lib.hid (fun W => letter_any (s[0].toNat : Int) W b0 b1)
      by_cases hl : isLetter (s[0].toNat : Int) = true
      · rw [name_yes h0 h31 hl]
        rw [hl] at HL
        have hx := extract_eq s (wlen (nums s)) (by have := wlen_le (nums s); rwa [nums_length] at this)
        clear hl
        by_cases hw : wlen (nums s) = s.size
        · have hx2 : ((s.extract 0 (wlen (nums s))).toList == s.toList) = true := by rw [hx]; simp [hw]
          rw [show decide (wlen (nums s) = s.size) = true from by simp [hw]]
          clear hx hw
          generalize wlen (nums s) = m at *
          generalize keys.contains (nums s) = kb at *
          go_enter Tryd.func123, Tryd.ntmps123
          go_wp2_with (first
            | (go_at_call 129; refine (HL.out _).mono ?_; rintro e w1 ⟨rfl, rfl⟩)
            | (go_at_call 130; refine HW.out.mono ?_; rintro e w2 ⟨rfl, hb2⟩)
            | (go_at_call 131; refine (HY.out _ hb2).mono ?_; rintro e w3 ⟨rfl, rfl⟩))
          go_ret
          exact ⟨rfl, hb2⟩
        · have hx2 : ((s.extract 0 (wlen (nums s))).toList == s.toList) = false := by rw [hx]; simp [hw]
          rw [show decide (wlen (nums s) = s.size) = false from by simp [hw]]
          clear hx hw
          generalize wlen (nums s) = m at *
          generalize keys.contains (nums s) = kb at *
          go_enter Tryd.func123, Tryd.ntmps123
          go_wp2_with (first
            | (go_at_call 129; refine (HL.out _).mono ?_; rintro e w1 ⟨rfl, rfl⟩)
            | (go_at_call 130; refine HW.out.mono ?_; rintro e w2 ⟨rfl, hb2⟩))
          go_ret
          exact ⟨rfl, hb2⟩
      · have hl' : isLetter (s[0].toNat : Int) = false := by simpa using hl
        rw [name_no (fun _ _ => hl')]
        rw [hl'] at HL
        clear hl hl'
        go_enter Tryd.func123, Tryd.ntmps123
        go_wp2_with (go_at_call 129; refine (HL.out _).mono ?_; rintro e w1 ⟨rfl, rfl⟩)
        go_ret
        exact ⟨rfl, (Below.refl _ _).alloc (Nat.le_refl _) _⟩
    · rw [name_no (fun _ h => absurd h h31)]
      go_enter Tryd.func123, Tryd.ntmps123
      go_wp2_with fail
      go_ret
      exact ⟨rfl, (Below.refl _ _).alloc (Nat.le_refl _) _⟩
  · have he : s.toList = [] := by rw [empty_iff]; omega
    rw [name_no (fun h _ => absurd h h0)]
    go_enter Tryd.func123, Tryd.ntmps123
    go_wp2_with fail
    go_ret
    exact ⟨rfl, (Below.refl _ _).alloc (Nat.le_refl _) _⟩
end Go.Proofs.YtejhphnlickjlaaDoor.ty
