/-
  The contract of number of package types, and of Whole of the reference. No condition but a text that is no longer than a text may be.
-/
import Derived.Test.YtejhphnlickjlaaDoorTyB
import Derived.Laws.IdiomStrings
set_option linter.unusedVariables false
set_option linter.unusedSimpArgs false
namespace Go.Proofs.YtejhphnlickjlaaDoor.ty
open Go.ChangeShapes Go.WideShapes Go.RowKit
open M T
set_option linter.unusedVariables false
def strs (l : List ByteArray) : List Value := l.map .string
theorem strs_length (l : List ByteArray) : (strs l).length = l.length := by simp [strs]
theorem rd_str {w : World} {B : Nat} {A : Option Addr} {l : List ByteArray} (h : Rd w B A (strs l)) {k : Nat} (hk : k < l.length) :
    ∃ ad p x, A = some ad ∧ l[k]? = some x ∧ ad.add k = p ∧ p.block < B ∧ w.cell? p = some (.string x) := by
  obtain ⟨ad, e, hb, hc⟩ := h (by intro h0; have h1 := strs_length l; rw [h0, List.length_nil] at h1; omega)
  refine ⟨ad, ad.add k, l[k], e, List.getElem?_eq_getElem hk, rfl, ?_, ?_⟩
  · rw [M.block_add]; exact hb
  · exact hc k _ (by simp [strs, List.getElem?_eq_getElem hk])
def sameS (s x : ByteArray) : Bool := s.toList == x.toList
set_option maxHeartbeats 400000 in
theorem index_str (A : Option Addr) (n c : Nat) (l : List ByteArray) (s : ByteArray) (w : World) (hl : l.length = n) (hn : n ≤ maxLen) (hA : Rd w w.heap.size A (strs l)) :
    Calls Tryd.prog 136 #[.slice A n c, .string s] w fun e w' => e = .returned (.int .i64 (if l.findIdx (sameS s) < n then (l.findIdx (sameS s) : Int) else -1)) ∧ w' = w := by
  unfold maxLen at hn
  have Hl := Lib.hid hl
  have HA := Lib.hid hA
  clear hl hA
  generalize hans : (if l.findIdx (sameS s) < n then (l.findIdx (sameS s) : Int) else -1) = ans
  have Hans := Lib.hid hans
  clear hans
  go_enter Tryd.func136, Tryd.ntmps136
  go_wp2_with fail
  go_loop [8] (fun i => ∃ (k : Nat), k ≤ n ∧ i = .int .i64 k ∧ k ≤ l.findIdx (sameS s)) (fun i => n - (intOf i).toNat)
  case atStart => exact ⟨0, by omega, rfl, by omega⟩
  case round =>
    obtain ⟨k, hk, rfl, hi⟩ := hrel
    by_cases hlt : k < n
    · obtain ⟨ad, q, x, rfl, hxk, hp, -, a1⟩ := rd_str HA.out (k := k) (by rw [Hl.out]; exact hlt)
      have hk' : k < l.length := by rw [Hl.out]; exact hlt
      have hx : l[k]'hk' = x := (List.getElem?_eq_some_iff.1 hxk).2
      by_cases hpx : sameS s x = true
      · have Hfin : Hid (ans = (k : Int)) := Lib.hid (by
          have h1 : l.findIdx (sameS s) ≤ k := by
            rcases Nat.lt_or_ge k (l.findIdx (sameS s)) with h | h
            · have := List.not_of_lt_findIdx h
              rw [hx, hpx] at this
              cases this
            · exact h
          rw [← Hans.out, if_pos (by omega)]
          omega)
        have hpx2 : (s.toList == x.toList) = true := hpx
        clear hxk hx hpx hk'
        go_wp2_with fail
        go_ret
        exact ⟨ret_int Hfin.out.symm, rfl⟩
      · have hpx' : sameS s x = false := by simpa using hpx
        have Hfin : Hid (k + 1 ≤ l.findIdx (sameS s)) := Lib.hid (by
          rcases Nat.lt_or_ge k (l.findIdx (sameS s)) with h | h
          · exact h
          · have e : k = l.findIdx (sameS s) := by omega
            have := List.findIdx_getElem (p := sameS s) (xs := l) (w := by omega)
            simp only [← e] at this
            rw [hx, hpx'] at this
            cases this)
        have hpx2 : (s.toList == x.toList) = false := hpx'
        clear hxk hx hpx hpx' hk'
        go_wp2_with fail
        go_round
        case rel => exact ⟨k + 1, by omega, by go_num, Hfin.out⟩
        case measure => simp [intOf]; omega
    · obtain rfl : k = n := by omega
      go_wp2_with fail
      go_ret
      exact ⟨ret_int (by rw [← Hans.out, if_neg (by omega)]), rfl⟩
theorem contains_str (A : Option Addr) (n c : Nat) (l : List ByteArray) (s : ByteArray) (w : World) (hl : l.length = n) (hn : n ≤ maxLen) (hA : Rd w w.heap.size A (strs l)) :
    Calls Tryd.prog 135 #[.slice A n c, .string s] w fun e w' => e = .returned (.bool (l.any (sameS s))) ∧ w' = w := by
  have HI := Lib.hid (index_str A n c l s w hl hn hA)
  rw [show l.any (sameS s) = decide (l.findIdx (sameS s) < n) from by rw [← hl, Bool.eq_iff_iff, decide_eq_true_iff, List.any_eq_true, List.findIdx_lt_length]]
  by_cases h : l.findIdx (sameS s) < n
  · rw [if_pos h] at HI
    rw [show decide (l.findIdx (sameS s) < n) = true from by simp [h]]
    clear hl hn hA
    generalize l.findIdx (sameS s) = k at *
    clear h
    go_enter Tryd.func135, Tryd.ntmps135
    go_wp2_with (go_at_call 136; refine HI.out.mono ?_; rintro e w1 ⟨rfl, rfl⟩)
    go_ret
    exact ⟨rfl, rfl⟩
  · rw [if_neg h] at HI
    rw [show decide (l.findIdx (sameS s) < n) = false from by simp [h]]
    clear hl hn hA h
    go_enter Tryd.func135, Tryd.ntmps135
    go_wp2_with (go_at_call 136; refine HI.out.mono ?_; rintro e w1 ⟨rfl, rfl⟩)
    go_ret
    exact ⟨rfl, rfl⟩
def keyStrs : List ByteArray := keys.map strOfNums
theorem key_byte : ∀ k ∈ keys, ∀ x ∈ k, 0 ≤ x ∧ x ≤ 255 := by decide
theorem key_any (s : ByteArray) : keyStrs.any (sameS s) = keys.contains (nums s) := by
  rw [Bool.eq_iff_iff, List.any_eq_true, List.contains_iff_mem]
  constructor
  · rintro ⟨x, hx, h⟩
    obtain ⟨k, hk, rfl⟩ := List.mem_map.1 hx
    have h2 : s.toList = (strOfNums k).toList := by simpa [sameS] using h
    rw [ByteArray.toList_eq, ByteArray.toList_eq] at h2
    have e : s = strOfNums k := ByteArray.ext (Array.toList_inj.1 h2)
    rw [e, nums_str (key_byte k hk)]
    exact hk
  · intro h
    refine ⟨strOfNums (nums s), List.mem_map.2 ⟨_, h, rfl⟩, ?_⟩
    have e : strOfNums (nums s) = s := nums_inj (nums_str (nums_byte s))
    rw [e]
    simp [sameS]
/-- the table of keywords reads as the program lays it -/
def KeysIn (w : World) : Prop := Rd w w.heap.size (some ⟨0, 0, none⟩) (strs keyStrs)
theorem KeysIn.below {w w' : World} (h : KeysIn w) (hb : Below w.heap.size w w') : KeysIn w' := (Rd.below h hb).more hb.size
theorem KeysIn.drewN {w : World} (h : KeysIn w) (q : Nat) : KeysIn (w.drewN q) := h
theorem iskey_any (s : ByteArray) (w : World) (hK : KeysIn w) : Calls Tryd.prog 131 #[.string s] w fun e w' => e = .returned (.bool (keys.contains (nums s))) ∧ w' = w := by
  have HC := Lib.hid (contains_str (some ⟨0, 0, none⟩) 20 20 keyStrs s w rfl (by simp [maxLen]) hK)
  rw [key_any] at HC
  clear hK
  generalize keys.contains (nums s) = kb at *
  go_enter Tryd.func131, Tryd.ntmps131
  go_wp2_with (go_at_call 135; refine HC.out.mono ?_; rintro e w1 ⟨rfl, rfl⟩)
  go_ret
  exact ⟨rfl, rfl⟩
theorem wlen_all : ∀ (l : List Int), wlen l = l.length ↔ l.all wch = true
  | [] => by simp [wlen]
  | c :: l => by
    rw [wlen_cons, List.all_cons, Bool.and_eq_true]
    have h1 := wlen_le l
    have h2 := wlen_all l
    by_cases h : wch c = true
    · rw [if_pos h, List.length_cons]
      constructor
      · intro e; exact ⟨h, h2.1 (by omega)⟩
      · intro e; rw [h2.2 e.2]
    · rw [if_neg h]
      constructor
      · intro e; simp at e
      · intro e; exact absurd e.1 h
theorem name_yes {s : ByteArray} (h0 : 0 < s.size) (h31 : s.size ≤ 31) (hl : isLetter (s[0].toNat : Int) = true) : nameB (nums s) = (decide (wlen (nums s) = s.size) && !keys.contains (nums s)) := by
  unfold nameB
  rw [show decide ((nums s).length ≤ 31) = true from by rw [nums_length]; simp [h31], Bool.true_and]
  congr 1
  have hc := sfx_cons s 0 h0
  rw [sfx_zero] at hc
  rw [Bool.eq_iff_iff, decide_eq_true_iff, ← nums_length, wlen_all, hc]
  simp only [wordB, List.all_cons, Bool.and_eq_true, hl, true_and, wch, Bool.true_or]
  exact Iff.rfl
theorem name_no {s : ByteArray} (h : ∀ h0 : 0 < s.size, s.size ≤ 31 → isLetter (s[0].toNat : Int) = false) : nameB (nums s) = false := by
  rcases Nat.eq_zero_or_pos s.size with h0 | h0
  · have : nums s = [] := List.eq_nil_of_length_eq_zero (by rw [nums_length]; exact h0)
    rw [this]; rfl
  · rcases Nat.lt_or_ge 31 s.size with h31 | h31
    · unfold nameB
      rw [show decide ((nums s).length ≤ 31) = false from by rw [nums_length]; simp; omega]; rfl
    · have hc := sfx_cons s 0 h0
      rw [sfx_zero] at hc
      unfold nameB
      rw [hc]
      simp [wordB, h h0 h31]
theorem extract_all (s : ByteArray) : s.extract 0 s.size = s := by
  apply nums_inj
  rw [nums_extract s 0 s.size (Nat.le_refl _), sfx_zero, List.take_of_length_le (by rw [nums_length]; omega)]
theorem extract_eq (s : ByteArray) (m : Nat) (hm : m ≤ s.size) : ((s.extract 0 m).toList == s.toList) = decide (m = s.size) := by
  rw [Bool.eq_iff_iff, beq_iff_eq, decide_eq_true_iff]
  constructor
  · intro h
    rw [ByteArray.toList_eq, ByteArray.toList_eq] at h
    have := congrArg List.length h
    simp [ByteArray.data_extract] at this
    omega
  · rintro rfl
    rw [extract_all]
theorem empty_iff (s : ByteArray) : s.toList = [] ↔ s.size = 0 := by
  rw [ByteArray.toList_eq]
  constructor
  · intro h
    have := congrArg List.length h
    simpa using this
  · intro h
    exact List.eq_nil_of_length_eq_zero (by simpa using h)
set_option maxHeartbeats 800000 in
theorem isname_any (s : ByteArray) (w : World) (hK : KeysIn w) (hs : s.size ≤ maxLen) : Calls Tryd.prog 123 #[.string s] w fun e w' => e = .returned (.bool (nameB (nums s))) ∧ Below w.heap.size w w' := by
  have HK := Lib.hid hK
  clear hK
  have HW : Hid (Calls Tryd.prog 130 #[.pointer (some ⟨w.heap.size, 0, none⟩)] (w.alloc (.cells #[.string s, .int .i64 0] 169)) fun e w' => e = .returned (.string (s.extract 0 (wlen (nums s)))) ∧ Below w.heap.size w w') := Lib.hid (by
    have := word_any w.heap.size s 0 (w.alloc (.cells #[.string s, .int .i64 0] 169)) (by unfold Txt; exact heap_alloc_new w _) (Nat.zero_le _) hs
    rw [sfx_zero, Nat.zero_add] at this
    refine this.mono fun e w' ⟨h1, h2⟩ => ⟨h1, ?_⟩
    exact ((Below.refl _ _).alloc (Nat.le_refl _) _).grown h2 (by simp) (fun k hk => by injection hk with hk; omega))
  have HY : Hid (∀ W, Below w.heap.size w W → Calls Tryd.prog 131 #[.string s] W fun e w' => e = .returned (.bool (keys.contains (nums s))) ∧ w' = W) := Lib.hid (fun W hb => iskey_any s W (HK.out.below hb))
  by_cases h0 : 0 < s.size
  · have hne : ¬ s.toList = [] := by rw [empty_iff]; omega
    have hne2 : s.toList.isEmpty = false := by simpa using hne
    by_cases h31 : s.size ≤ 31
    · obtain ⟨b0, b1⟩ := byte_bd s[0]
      have HL := Lib.hid (fun W => letter_any (s[0].toNat : Int) W b0 b1)
      by_cases hl : isLetter (s[0].toNat : Int) = true
      · rw [name_yes h0 h31 hl]
        rw [hl] at HL
        have hx := extract_eq s (wlen (nums s)) (by have := wlen_le (nums s); rwa [nums_length] at this)
        clear hl
        by_cases hw : wlen (nums s) = s.size
        · have hx2 : ((s.extract 0 (wlen (nums s))).toList == s.toList) = true := by rw [hx]; simp [hw]
          rw [show decide (wlen (nums s) = s.size) = true from by simp [hw]]
          clear hx hw
          generalize wlen (nums s) = m at *
          generalize keys.contains (nums s) = kb at *
          go_enter Tryd.func123, Tryd.ntmps123
          go_wp2_with (first
            | (go_at_call 129; refine (HL.out _).mono ?_; rintro e w1 ⟨rfl, rfl⟩)
            | (go_at_call 130; refine HW.out.mono ?_; rintro e w2 ⟨rfl, hb2⟩)
            | (go_at_call 131; refine (HY.out _ hb2).mono ?_; rintro e w3 ⟨rfl, rfl⟩))
          go_ret
          exact ⟨rfl, hb2⟩
        · have hx2 : ((s.extract 0 (wlen (nums s))).toList == s.toList) = false := by rw [hx]; simp [hw]
          rw [show decide (wlen (nums s) = s.size) = false from by simp [hw]]
          clear hx hw
          generalize wlen (nums s) = m at *
          generalize keys.contains (nums s) = kb at *
          go_enter Tryd.func123, Tryd.ntmps123
          go_wp2_with (first
            | (go_at_call 129; refine (HL.out _).mono ?_; rintro e w1 ⟨rfl, rfl⟩)
            | (go_at_call 130; refine HW.out.mono ?_; rintro e w2 ⟨rfl, hb2⟩))
          go_ret
          exact ⟨rfl, hb2⟩
      · have hl' : isLetter (s[0].toNat : Int) = false := by simpa using hl
        rw [name_no (fun _ _ => hl')]
        rw [hl'] at HL
        clear hl hl'
        go_enter Tryd.func123, Tryd.ntmps123
        go_wp2_with (go_at_call 129; refine (HL.out _).mono ?_; rintro e w1 ⟨rfl, rfl⟩)
        go_ret
        exact ⟨rfl, (Below.refl _ _).alloc (Nat.le_refl _) _⟩
    · rw [name_no (fun _ h => absurd h h31)]
      go_enter Tryd.func123, Tryd.ntmps123
      go_wp2_with fail
      go_ret
      exact ⟨rfl, (Below.refl _ _).alloc (Nat.le_refl _) _⟩
  · have he : s.toList = [] := by rw [empty_iff]; omega
    rw [name_no (fun h _ => absurd h h0)]
    go_enter Tryd.func123, Tryd.ntmps123
    go_wp2_with fail
    go_ret
    exact ⟨rfl, (Below.refl _ _).alloc (Nat.le_refl _) _⟩
end Go.Proofs.YtejhphnlickjlaaDoor.ty
namespace Go.Proofs.YtejhphnlickjlaaDoor.ty
open Go.ChangeShapes Go.WideShapes Go.RowKit
open M T
set_option linter.unusedVariables false
theorem num_snoc (l : List Int) (c : Int) : T.numOf (l ++ [c]) = 10 * T.numOf l + (c - 48) := by simp [T.numOf, List.foldl_append]
theorem num_bd : ∀ (n : Nat) (l : List Int), l.length = n → (∀ c ∈ l, isDigit c = true) → 0 ≤ T.numOf l ∧ T.numOf l < 10 ^ n
  | 0, l, h, _ => by
    have : l = [] := List.eq_nil_of_length_eq_zero h
    subst this
    exact ⟨by simp [T.numOf], by simp [T.numOf]⟩
  | n + 1, l, h, hd => by
    rcases List.eq_nil_or_concat l with rfl | ⟨a, c, rfl⟩
    · simp at h
    · rw [List.concat_eq_append] at *
      obtain ⟨h1, h2⟩ := num_bd n a (by simpa using h) (fun x hx => hd x (by simp [hx]))
      have hc := of_decide_eq_true (hd c (by simp))
      rw [num_snoc, Int.pow_succ]
      omega
theorem num_small {l : List Int} (h : l.length ≤ 14) (hd : ∀ c ∈ l, isDigit c = true) : 0 ≤ T.numOf l ∧ T.numOf l < 100000000000000 := by
  obtain ⟨h1, h2⟩ := num_bd l.length l rfl hd
  refine ⟨h1, Int.lt_of_lt_of_le h2 ?_⟩
  have : (10 : Int) ^ l.length ≤ 10 ^ 14 := by
    have h3 : (10 : Nat) ^ l.length ≤ 10 ^ 14 := Nat.pow_le_pow_right (by omega) h
    exact_mod_cast h3
  simpa using this
theorem whole_no {l : List Int} (h : l = [] ∨ 15 < l.length ∨ (1 < l.length ∧ l.head? = some 48) ∨ ∃ c ∈ l, isDigit c = false) : whole l = false := by
  unfold whole
  apply decide_eq_false
  rintro ⟨h1, h2, h3, h4, -⟩
  rcases h with h | h | h | ⟨c, hc, h⟩
  · exact h1 h
  · omega
  · exact h3 h.1 h.2
  · rw [h4 c hc] at h; cases h
theorem whole_yes {l : List Int} (h1 : l ≠ []) (h2 : l.length ≤ 15) (h3 : 1 < l.length → l.head? ≠ some 48) (h4 : ∀ c ∈ l, isDigit c = true) : whole l = decide (T.numOf l ≤ 1099511627776) := by
  unfold whole
  rw [Bool.eq_iff_iff, decide_eq_true_iff, decide_eq_true_iff]
  exact ⟨fun h => h.2.2.2.2, fun h => ⟨h1, h2, h3, h4, h⟩⟩
theorem take_nums {s : ByteArray} {k : Nat} (h : k < s.size) : (nums s).take (k + 1) = (nums s).take k ++ [(s[k].toNat : Int)] := by
  rw [List.take_add_one, nums_get s k h]; rfl
def NumS (b : Bool) (w : World) (e : Ending) (w' : World) : Prop := (∃ n : Int, e = .returned (.tuple #[.int .i64 n, .bool b])) ∧ Below w.heap.size w w'
theorem num_ret {b c : Bool} {w w' : World} (n : Int) (h : b = c) (hb : Below w.heap.size w w') : NumS b w (.returned (.tuple #[.int .i64 n, .bool c])) w' := ⟨⟨n, by rw [h]⟩, hb⟩
theorem nums_head {s : ByteArray} (h : 0 < s.size) : (nums s).head? = some (s[0].toNat : Int) := by
  have := sfx_cons s 0 h
  rw [sfx_zero] at this
  rw [this]; rfl
theorem nums_nil {s : ByteArray} (h : s.size = 0) : nums s = [] := List.eq_nil_of_length_eq_zero (by rw [nums_length]; exact h)
theorem nums_ne {s : ByteArray} (h : 0 < s.size) : nums s ≠ [] := by intro e; have := nums_length s; rw [e] at this; simp at this; omega
theorem below_new (w : World) (R : Array Value) (fr : Nat × Nat) : Below w.heap.size w (w.alloc (.cells R 5 fr)).drew := ((Below.refl _ _).alloc (Nat.le_refl _) _).drew
set_option maxHeartbeats 1600000 in
theorem number_any (s : ByteArray) (w : World) (hs : s.size ≤ maxLen) : Calls Tryd.prog 122 #[.string s] w (NumS (whole (nums s)) w) := by
  have hcv := fun w : World => run_bytes_of_string (P := Tryd.prog) w 9 25 5 s Tryd.underlying9 Tryd.underlying25 Tryd.underlying5
  by_cases h0 : 0 < s.size
  · have hne : ¬ s.toList = [] := by rw [empty_iff]; omega
    have hne2 : s.toList.isEmpty = false := by simpa using hne
    by_cases h15 : s.size ≤ 15
    · by_cases hz : 1 < s.size ∧ (s[0].toNat : Int) = 48
      · obtain ⟨hz1, hz2⟩ := hz
        rw [whole_no (.inr (.inr (.inl ⟨by rw [nums_length]; exact hz1, by rw [nums_head h0, hz2]⟩)))]
        have hb : ((s[0].toNat : Int) == 48) = true := by simp [hz2]
        clear hz2 hcv
        go_enter Tryd.func122, Tryd.ntmps122
        go_wp2_with fail
        go_ret2
        exact num_ret 0 rfl (Below.refl _ _)
      · have Hz : Hid (1 < (nums s).length → (nums s).head? ≠ some 48) := Lib.hid (fun h1 h2 => hz ⟨by rwa [nums_length] at h1, by rw [nums_head h0] at h2; exact Option.some.inj h2⟩)
        have Hno : Hid (∀ k (h : k < s.size), isDigit (s[k].toNat : Int) = false → whole (nums s) = false) := Lib.hid (fun k h hd => whole_no (.inr (.inr (.inr ⟨_, List.mem_of_getElem? (nums_get s k h), hd⟩))))
        have Hyes : Hid ((∀ c ∈ nums s, isDigit c = true) → whole (nums s) = decide (T.numOf (nums s) ≤ 1099511627776)) := Lib.hid (fun h => whole_yes (nums_ne h0) (by rw [nums_length]; exact h15) Hz.out h)
        generalize whole (nums s) = W at *
        have hw1 : 1 < s.size → ((s[0].toNat : Int) == 48) = false := fun h => by simp; intro e; exact hz ⟨h, e⟩
        clear hz
        by_cases hs1 : 1 < s.size
        case' pos => have hb0 := hw1 hs1
        all_goals
          clear hw1
          go_enter Tryd.func122, Tryd.ntmps122
          go_wp2_with fail
          clear hcv
          go_loop [4, 27] (fun v i => ∃ k : Nat, k ≤ s.size ∧ i = .int .i64 k ∧ v = .int .i64 (T.numOf ((nums s).take k)) ∧ ∀ c ∈ (nums s).take k, isDigit c = true) (fun _ i => s.size - (intOf i).toNat)
          case atStart => exact ⟨0, by omega, rfl, rfl, by simp⟩
          case round =>
            obtain ⟨k, hk, rfl, rfl, hd⟩ := hrel
            have Hd := Lib.hid hd
            clear hd
            by_cases hlt : k < s.size
            · have Ht := Lib.hid (take_nums hlt)
              obtain ⟨n0, n1⟩ := num_small (l := (nums s).take k) (by rw [List.length_take]; omega) Hd.out
              have Hv : Hid (T.numOf ((nums s).take (k + 1)) = 10 * T.numOf ((nums s).take k) + ((s[k].toNat : Int) - 48)) := Lib.hid (by rw [Ht.out, num_snoc])
              have Hn := Lib.hid (Hno.out k hlt)
              generalize T.numOf ((nums s).take k) = v at *
              have hR : (bytesRow s (grownCap w s.size 0 5))[k]? = some (.int .u8 (s[k].toNat : Int)) := bytesRow_at s _ k hlt
              have hb := below_new w (bytesRow s (grownCap w s.size 0 5)) ((bytesRow s (grownCap w s.size 0 5)).size, (bytesRow s (grownCap w s.size 0 5)).size + 1)
              have hc : (w.alloc (.cells (bytesRow s (grownCap w s.size 0 5)) 5 ((bytesRow s (grownCap w s.size 0 5)).size, (bytesRow s (grownCap w s.size 0 5)).size + 1))).cell? ⟨w.heap.size, k, none⟩ = some (.int .u8 (s[k].toNat : Int)) := (World.cell?_alloc_mark w _ _ _ k).trans hR
              obtain ⟨b0, b1⟩ := byte_bd s[k]
              clear hR
              by_cases c1 : (s[k].toNat : Int) < 48
              · have hfin := Lib.hid (Hn.out (by unfold isDigit; exact decide_eq_false (by omega)))
                go_wp2_with fail
                go_ret2
                exact num_ret 0 hfin.out hb
              · by_cases c2 : 57 < (s[k].toNat : Int)
                · have hfin := Lib.hid (Hn.out (by unfold isDigit; exact decide_eq_false (by omega)))
                  go_wp2_with fail
                  go_ret2
                  exact num_ret 0 hfin.out hb
                · have Hdk : Hid (∀ c ∈ (nums s).take (k + 1), isDigit c = true) := Lib.hid (fun c hc => by
                    rw [Ht.out] at hc
                    rcases List.mem_append.1 hc with h | h
                    · exact Hd.out c h
                    · have : c = (s[k].toNat : Int) := by simpa using h
                      rw [this]; unfold isDigit; exact decide_eq_true (by omega))
                  go_wp2_with fail
                  go_round
                  case rel => exact ⟨k + 1, by omega, by go_num, by rw [Hv.out], Hdk.out⟩
                  case measure => simp [intOf]; omega
            · have e : (nums s).take k = nums s := List.take_of_length_le (by rw [nums_length]; omega)
              have hb := below_new w (bytesRow s (grownCap w s.size 0 5)) ((bytesRow s (grownCap w s.size 0 5)).size, (bytesRow s (grownCap w s.size 0 5)).size + 1)
              rw [e] at Hd ⊢
              have HW := Lib.hid (Hyes.out Hd.out)
              clear e
              generalize T.numOf (nums s) = v at *
              go_wp2_with fail
              go_ret2
              exact num_ret v HW.out hb
    · rw [whole_no (.inr (.inl (by rw [nums_length]; omega)))]
      clear hcv
      go_enter Tryd.func122, Tryd.ntmps122
      go_wp2_with fail
      go_ret2
      exact num_ret 0 rfl (Below.refl _ _)
  · rw [whole_no (.inl (nums_nil (by omega)))]
    have he : s.toList = [] := by rw [empty_iff]; omega
    clear hcv
    go_enter Tryd.func122, Tryd.ntmps122
    go_wp2_with fail
    go_ret2
    exact num_ret 0 rfl (Below.refl _ _)
end Go.Proofs.YtejhphnlickjlaaDoor.ty
