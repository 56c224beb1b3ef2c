/-
  Contracts of digits of the reference's types, and of Whole of its base. No condition but lengths.
-/
import Derived.Test.YtejhphnlickjlaaDoorTyK
set_option linter.unusedVariables false
set_option linter.unusedSimpArgs false
namespace Go.Proofs.YtejhphnlickjlaaDoor.ty
open Go.ChangeShapes Go.WideShapes Go.RowKit
open M T
set_option linter.unusedVariables false
theorem letter2_any (c : Int) (w : World) (h0 : 0 ≤ c) (h1 : c ≤ 255) : Calls Tryd.prog 125 #[.int .u8 c] w fun e w' => e = .returned (.bool (isLetter c)) ∧ w' = w := by
  generalize hb : isLetter c = b
  have Hb := Lib.hid hb
  clear hb
  go_enter Tryd.func125, Tryd.ntmps125
  go_wp2_with fail
  all_goals
    go_ret
    refine ⟨ret_bool ?_, rfl⟩
    rw [← Hb.out, Bool.eq_iff_iff]
    unfold isLetter
    simp
    try omega
theorem wordB_first {s : ByteArray} (h0 : 0 < s.size) : wordB (nums s) = (isLetter (s[0].toNat : Int) && (nums s).all wch) := by
  have hc := sfx_cons s 0 h0
  rw [sfx_zero] at hc
  rw [hc]
  by_cases hl : isLetter (s[0].toNat : Int) = true
  · simp only [wordB, List.all_cons, hl, Bool.true_and, wch, Bool.true_or]; rfl
  · simp [wordB, hl]
set_option maxHeartbeats 800000 in
theorem Word_any (s : ByteArray) (w : World) (hs : s.size ≤ maxLen) : Calls Tryd.prog 110 #[.string s] w fun e w' => e = .returned (.bool (wordB (nums s))) ∧ w' = w := by
  have HL := Lib.hid letter2_any
  unfold maxLen at hs
  by_cases h0 : 0 < s.size
  · have hne : ¬ s.toList = [] := by rw [empty_iff]; omega
    have hne2 : s.toList.isEmpty = false := by simpa using hne
    obtain ⟨b0, b1⟩ := byte_bd s[0]
    have HL0 : Hid (∀ W, Calls Tryd.prog 125 #[.int .u8 (s[0].toNat : Int)] W fun e w' => e = .returned (.bool (isLetter (s[0].toNat : Int))) ∧ w' = W) := Lib.hid (fun W => HL.out _ W b0 b1)
    rw [wordB_first h0]
    by_cases hl : isLetter (s[0].toNat : Int) = true
    · rw [hl] at HL0 ⊢
      rw [Bool.true_and]
      clear hl
      generalize hb : (nums s).all wch = b
      have Hb : Hid ((sfx s 0).all wch = b) := Lib.hid (by rw [sfx_zero]; exact hb)
      clear hb
      go_enter Tryd.func110, Tryd.ntmps110
      go_wp2_with (go_at_call 125; refine (HL0.out _).mono ?_; rintro e w1 ⟨rfl, rfl⟩)
      go_loop [3] (fun i => ∃ (k : Nat), k ≤ s.size ∧ i = .int .i64 k ∧ (sfx s k).all wch = b) (fun i => s.size - (intOf i).toNat)
      case atStart => exact ⟨0, by omega, rfl, Hb.out⟩
      case round =>
        obtain ⟨k, hk, rfl, hi⟩ := hrel
        have Hi := Lib.hid hi
        clear hi
        by_cases hlt : k < s.size
        · have HC := Lib.hid (sfx_cons s k hlt)
          obtain ⟨b0, b1⟩ := byte_bd s[k]
          have HLc : Hid (∀ W, Calls Tryd.prog 125 #[.int .u8 (s[k].toNat : Int)] W fun e w' => e = .returned (.bool (isLetter (s[k].toNat : Int))) ∧ w' = W) := Lib.hid (fun W => HL.out _ W b0 b1)
          have Hw : Hid (∀ c, wch (s[k].toNat : Int) = c → (c && (sfx s (k + 1)).all wch) = b) := Lib.hid (fun c hc => by
            have := Hi.out
            rw [HC.out, List.all_cons, hc] at this
            exact this)
          by_cases hl : isLetter (s[k].toNat : Int) = true
          · rw [hl] at HLc
            have Hwt := Lib.hid (Hw.out true (by simp [wch, hl]))
            clear hl
            go_wp2_with (go_at_call 125; refine (HLc.out _).mono ?_; rintro e w1 ⟨rfl, rfl⟩)
            go_round
            case rel => exact ⟨k + 1, by omega, by go_num, by have := Hwt.out; rwa [Bool.true_and] at this⟩
            case measure => simp [intOf]; omega
          · have hl' : isLetter (s[k].toNat : Int) = false := by simpa using hl
            rw [hl'] at HLc
            by_cases hd : isDigit (s[k].toNat : Int) = true
            · have Hwt := Lib.hid (Hw.out true (by simp [wch, hd]))
              have hd2 := of_decide_eq_true hd
              obtain ⟨c1, c2⟩ := hd2
              clear hl hl' hd
              go_wp2_with (go_at_call 125; refine (HLc.out _).mono ?_; rintro e w1 ⟨rfl, rfl⟩)
              go_round
              case rel => exact ⟨k + 1, by omega, by go_num, by have := Hwt.out; rwa [Bool.true_and] at this⟩
              case measure => simp [intOf]; omega
            · have hd' : isDigit (s[k].toNat : Int) = false := by simpa using hd
              have Hbf : Hid (b = false) := Lib.hid (by have := Hw.out false (by simp [wch, hl', hd']); simpa using this.symm)
              have hd2 := of_decide_eq_false hd'
              clear hl hl' hd hd'
              by_cases c1 : (s[k].toNat : Int) < 48
              · clear hd2
                go_wp2_with (go_at_call 125; refine (HLc.out _).mono ?_; rintro e w1 ⟨rfl, rfl⟩)
                go_ret
                exact ⟨ret_bool Hbf.out.symm, rfl⟩
              · have c2 : 57 < (s[k].toNat : Int) := by omega
                clear hd2
                go_wp2_with (go_at_call 125; refine (HLc.out _).mono ?_; rintro e w1 ⟨rfl, rfl⟩)
                go_ret
                exact ⟨ret_bool Hbf.out.symm, rfl⟩
        · obtain rfl : k = s.size := by omega
          have Hbt : Hid (b = true) := Lib.hid (by have := Hi.out; rw [sfx_nil s _ (Nat.le_refl _)] at this; exact this.symm)
          go_wp2_with fail
          go_ret
          exact ⟨ret_bool Hbt.out.symm, rfl⟩
    · have hl' : isLetter (s[0].toNat : Int) = false := by simpa using hl
      rw [hl'] at HL0 ⊢
      rw [Bool.false_and]
      clear hl hl'
      go_enter Tryd.func110, Tryd.ntmps110
      go_wp2_with (go_at_call 125; refine (HL0.out _).mono ?_; rintro e w1 ⟨rfl, rfl⟩)
      go_ret
      exact ⟨rfl, rfl⟩
  · have he : s.toList = [] := by rw [empty_iff]; omega
    rw [show wordB (nums s) = false from by rw [nums_nil (by omega)]; rfl]
    go_enter Tryd.func110, Tryd.ntmps110
    go_wp2_with fail
    go_ret
    exact ⟨rfl, rfl⟩
set_option maxHeartbeats 400000 in
theorem In_any (A : Option Addr) (n c : Nat) (l : List ByteArray) (s : ByteArray) (w : World) (hl : l.length = n) (hn : n ≤ maxLen) (hA : Rd w w.heap.size A (strs l)) :
    Calls Tryd.prog 126 #[.slice A n c, .string s] w fun e w' => e = .returned (.bool (l.any (sameS s))) ∧ w' = w := by
  unfold maxLen at hn
  have Hl := Lib.hid hl
  have HA := Lib.hid hA
  clear hl hA
  generalize hans : l.any (sameS s) = b
  have Hb : Hid ((l.drop 0).any (sameS s) = b) := Lib.hid hans
  clear hans
  go_enter Tryd.func126, Tryd.ntmps126
  go_wp2_with fail
  go_loop [5] (fun i => ∃ (k : Nat), k ≤ n ∧ i = .int .i64 k ∧ (l.drop k).any (sameS s) = b) (fun i => n - (intOf i).toNat)
  case atStart => exact ⟨0, by omega, rfl, Hb.out⟩
  case round =>
    obtain ⟨k, hk, rfl, hi⟩ := hrel
    have Hi := Lib.hid hi
    clear hi
    by_cases hlt : k < n
    · obtain ⟨ad, q, x, rfl, hxk, hp, -, a1⟩ := rd_str HA.out (k := k) (by rw [Hl.out]; exact hlt)
      have hk' : k < l.length := by rw [Hl.out]; exact hlt
      have hx : l[k]'hk' = x := (List.getElem?_eq_some_iff.1 hxk).2
      have Hc : Hid ((sameS s x || (l.drop (k + 1)).any (sameS s)) = b) := Lib.hid (by
        have := Hi.out
        rwa [List.drop_eq_getElem_cons hk', List.any_cons, hx] at this)
      have hsym : (x.toList == s.toList) = sameS s x := by unfold sameS; rw [Bool.eq_iff_iff, beq_iff_eq, beq_iff_eq]; exact eq_comm
      by_cases hpx : sameS s x = true
      · have Hfin : Hid (b = true) := Lib.hid (by have := Hc.out; rw [hpx] at this; exact this.symm)
        rw [hpx] at hsym
        clear hxk hx hpx hk'
        go_wp2_with fail
        go_ret
        exact ⟨ret_bool Hfin.out.symm, rfl⟩
      · have hpx' : sameS s x = false := by simpa using hpx
        rw [hpx'] at hsym
        have Hfin : Hid ((l.drop (k + 1)).any (sameS s) = b) := Lib.hid (by have := Hc.out; rwa [hpx', Bool.false_or] at this)
        clear hxk hx hpx hpx' hk'
        go_wp2_with fail
        go_round
        case rel => exact ⟨k + 1, by omega, by go_num, Hfin.out⟩
        case measure => simp [intOf]; omega
    · obtain rfl : k = n := by omega
      have Hfin : Hid (b = false) := Lib.hid (by
        have := Hi.out
        rw [List.drop_eq_nil_of_le (by rw [Hl.out]; exact Nat.le_refl _)] at this
        exact this.symm)
      go_wp2_with fail
      go_ret
      exact ⟨ret_bool Hfin.out.symm, rfl⟩
theorem rd_new (w : World) (R : Array Value) (t : TypeId) (l : List Value) (h : R = l.toArray) : Rd (w.alloc (.cells R t)) (w.alloc (.cells R t)).heap.size (some ⟨w.heap.size, 0, none⟩) l := by
  intro _
  refine ⟨_, rfl, by rw [show (w.alloc (.cells R t)).heap = w.heap.push (.cells R t) from rfl, Array.size_push]; exact Nat.lt_succ_self _, fun k v hk => ?_⟩
  have hb : (w.alloc (.cells R t)).heap[w.heap.size]? = some (.cells R t (0, 0)) := heap_alloc_new w _
  have h2 := Go.Joins.cell_of_block hb k
  have e : Addr.add ⟨w.heap.size, 0, none⟩ k = ⟨w.heap.size, k, none⟩ := by
    unfold Addr.add
    split
    · rename_i h0; rw [h0]
    · simp
  rw [e, h2, h, List.getElem?_toArray]
  exact hk
theorem keys_row : #[Value.string { data := #[118, 111, 105, 100] }, Value.string { data := #[99, 104, 97, 114] },
          Value.string { data := #[115, 104, 111, 114, 116] }, Value.string { data := #[105, 110, 116] },
          Value.string { data := #[117, 110, 115, 105, 103, 110, 101, 100] },
          Value.string { data := #[115, 116, 114, 117, 99, 116] },
          Value.string { data := #[118, 111, 108, 97, 116, 105, 108, 101] }, Value.string { data := #[105, 102] },
          Value.string { data := #[101, 108, 115, 101] }, Value.string { data := #[119, 104, 105, 108, 101] },
          Value.string { data := #[100, 111] }, Value.string { data := #[102, 111, 114] },
          Value.string { data := #[115, 119, 105, 116, 99, 104] }, Value.string { data := #[99, 97, 115, 101] },
          Value.string { data := #[100, 101, 102, 97, 117, 108, 116] },
          Value.string { data := #[98, 114, 101, 97, 107] },
          Value.string { data := #[99, 111, 110, 116, 105, 110, 117, 101] },
          Value.string { data := #[114, 101, 116, 117, 114, 110] },
          Value.string { data := #[115, 105, 122, 101, 111, 102] },
          Value.string { data := #[106, 109, 112, 95, 98, 117, 102] }] = (strs keyStrs).toArray := by rfl
theorem Key_any (s : ByteArray) (w : World) : Calls Tryd.prog 111 #[.string s] w fun e w' => e = .returned (.bool (keys.contains (nums s))) ∧ Below w.heap.size w w' := by
  have HC : Hid (∀ W, Rd W W.heap.size (some ⟨w.heap.size, 0, none⟩) (strs keyStrs) → Below w.heap.size w W → Calls Tryd.prog 126 #[.slice (some ⟨w.heap.size, 0, none⟩) 20 20, .string s] W fun e w' => e = .returned (.bool (keys.contains (nums s))) ∧ Below w.heap.size w w') := Lib.hid (fun W hR hB => by
    have := In_any (some ⟨w.heap.size, 0, none⟩) 20 20 keyStrs s W rfl (by simp [maxLen]) hR
    rw [key_any] at this
    exact this.mono fun e w' ⟨h1, h2⟩ => ⟨h1, by rw [h2]; exact hB⟩)
  generalize keys.contains (nums s) = kb at *
  go_enter Tryd.func111, Tryd.ntmps111
  go_wp2_with (go_at_call 126; refine (HC.out _ (rd_new w _ _ _ keys_row) ((Below.refl _ _).alloc (Nat.le_refl _) _)).mono ?_; rintro e w1 ⟨rfl, hb⟩)
  go_ret
  exact ⟨rfl, hb⟩
theorem Name_any (s : ByteArray) (w : World) (hs : s.size ≤ maxLen) : Calls Tryd.prog 96 #[.string s] w fun e w' => e = .returned (.bool (nameB (nums s))) ∧ Below w.heap.size w w' := by
  have HW := Lib.hid (Word_any s w hs)
  have HK := Lib.hid (Key_any s w)
  unfold maxLen at hs
  unfold nameB
  rw [nums_length]
  by_cases h31 : s.size ≤ 31
  · rw [decide_eq_true h31, Bool.true_and]
    cases hw : wordB (nums s) with
    | true =>
      rw [hw] at HW
      clear hw
      rw [Bool.true_and]
      generalize keys.contains (nums s) = kb at *
      go_enter Tryd.func96, Tryd.ntmps96
      go_wp2_with (first
        | (go_at_call 110; refine HW.out.mono ?_; rintro e w1 ⟨rfl, rfl⟩)
        | (go_at_call 111; refine HK.out.mono ?_; rintro e w2 ⟨rfl, hb2⟩))
      go_ret
      exact ⟨rfl, hb2⟩
    | false =>
      rw [hw] at HW
      clear hw HK
      rw [Bool.false_and]
      go_enter Tryd.func96, Tryd.ntmps96
      go_wp2_with (go_at_call 110; refine HW.out.mono ?_; rintro e w1 ⟨rfl, rfl⟩)
      go_ret
      exact ⟨rfl, Below.refl _ _⟩
  · rw [decide_eq_false h31, Bool.false_and, Bool.false_and]
    clear HW HK
    go_enter Tryd.func96, Tryd.ntmps96
    go_wp2_with fail
    go_ret
    exact ⟨rfl, Below.refl _ _⟩
end Go.Proofs.YtejhphnlickjlaaDoor.ty
namespace Go.Proofs.YtejhphnlickjlaaDoor.ty
open Go.ChangeShapes Go.WideShapes Go.RowKit
open M T
set_option linter.unusedVariables false
/-- how many digits stand at the head -/
def dlen (l : List Int) : Nat := (l.takeWhile isDigit).length
theorem dlen_cons (c : Int) (l : List Int) : dlen (c :: l) = if isDigit c = true then dlen l + 1 else 0 := by
  unfold dlen
  rw [List.takeWhile_cons]
  split <;> simp_all
theorem dlen_le : ∀ (l : List Int), dlen l ≤ l.length
  | [] => by simp [dlen]
  | c :: l => by rw [dlen_cons]; have := dlen_le l; split <;> simp <;> omega
set_option maxHeartbeats 800000 in
theorem digits_any (s : ByteArray) (k0 : Nat) (w : World) (hk0 : k0 ≤ s.size) (hs : s.size ≤ maxLen) :
    Calls Tryd.prog 94 #[.string s, .int .i64 k0] w fun e w' => e = .returned (.int .i64 (k0 + dlen (sfx s k0) : Nat)) ∧ w' = w := by
  unfold maxLen at hs
  generalize hm : k0 + dlen (sfx s k0) = m
  have Hm := Lib.hid hm
  clear hm
  go_enter Tryd.func94, Tryd.ntmps94
  go_wp2_with fail
  go_loop [1] (fun i => ∃ (k : Nat), k ≤ s.size ∧ i = .int .i64 k ∧ k + dlen (sfx s k) = m) (fun i => s.size - (intOf i).toNat)
  case atStart => exact ⟨k0, hk0, rfl, Hm.out⟩
  case round =>
    obtain ⟨k, hk, rfl, hi⟩ := hrel
    have Hi := Lib.hid hi
    clear hi
    by_cases hlt : k < s.size
    · have HC := Lib.hid (sfx_cons s k hlt)
      obtain ⟨b0, b1⟩ := byte_bd s[k]
      by_cases hd : isDigit (s[k].toNat : Int) = true
      · have Hwt : Hid (k + 1 + dlen (sfx s (k + 1)) = m) := Lib.hid (by
          have := Hi.out
          rw [HC.out, dlen_cons, if_pos hd] at this
          omega)
        obtain ⟨c1, c2⟩ := of_decide_eq_true hd
        clear hd
        go_wp2_with fail
        go_round
        case rel => exact ⟨k + 1, by omega, by go_num, Hwt.out⟩
        case measure => simp [intOf]; omega
      · have hd' : isDigit (s[k].toNat : Int) = false := by simpa using hd
        have Hkm : Hid (k = m) := Lib.hid (by
          have := Hi.out
          rw [HC.out, dlen_cons, if_neg hd] at this
          omega)
        have hd2 := of_decide_eq_false hd'
        clear hd hd'
        by_cases c1 : (s[k].toNat : Int) < 48
        · clear hd2
          go_wp2_with fail
          go_ret
          exact ⟨ret_int (by rw [Hkm.out]), rfl⟩
        · have c2 : 57 < (s[k].toNat : Int) := by omega
          clear hd2
          go_wp2_with fail
          go_ret
          exact ⟨ret_int (by rw [Hkm.out]), rfl⟩
    · obtain rfl : k = s.size := by omega
      have Hkm : Hid (s.size = m) := Lib.hid (by
        have := Hi.out
        rw [sfx_nil s _ (Nat.le_refl _)] at this
        exact this)
      go_wp2_with fail
      go_ret
      exact ⟨ret_int (by rw [Hkm.out]), rfl⟩
set_option maxHeartbeats 1600000 in
theorem Whole_any (s : ByteArray) (w : World) (hs : s.size ≤ maxLen) : Calls Tryd.prog 95 #[.string s, .int .i64 1099511627776] w (NumS (whole (nums s)) w) := by
  unfold maxLen at hs
  by_cases h0 : 0 < s.size
  · have hz0 : ((s.size : Int) == 0) = false := by rw [beq_eq_false_iff_ne]; omega
    by_cases h15 : s.size ≤ 15
    · by_cases hz : 1 < s.size ∧ (s[0].toNat : Int) = 48
      · obtain ⟨hz1, hz2⟩ := hz
        rw [whole_no (.inr (.inr (.inl ⟨by rw [nums_length]; exact hz1, by rw [nums_head h0, hz2]⟩)))]
        have hb : ((s[0].toNat : Int) == 48) = true := by simp [hz2]
        clear hz2
        go_enter Tryd.func95, Tryd.ntmps95
        go_wp2_with fail
        go_ret2
        exact num_ret 0 rfl (Below.refl _ _)
      · have Hz : Hid (1 < (nums s).length → (nums s).head? ≠ some 48) := Lib.hid (fun h1 h2 => hz ⟨by rwa [nums_length] at h1, by rw [nums_head h0] at h2; exact Option.some.inj h2⟩)
        have Hno : Hid (∀ k (h : k < s.size), isDigit (s[k].toNat : Int) = false → whole (nums s) = false) := Lib.hid (fun k h hd => whole_no (.inr (.inr (.inr ⟨_, List.mem_of_getElem? (nums_get s k h), hd⟩))))
        have Hyes : Hid ((∀ c ∈ nums s, isDigit c = true) → whole (nums s) = decide (T.numOf (nums s) ≤ 1099511627776)) := Lib.hid (fun h => whole_yes (nums_ne h0) (by rw [nums_length]; exact h15) Hz.out h)
        generalize whole (nums s) = W at *
        have hw1 : 1 < s.size → ((s[0].toNat : Int) == 48) = false := fun h => by simp; intro e; exact hz ⟨h, e⟩
        clear hz
        by_cases hs1 : 1 < s.size
        case' pos => have hb0 := hw1 hs1
        all_goals
          clear hw1
          go_enter Tryd.func95, Tryd.ntmps95
          go_wp2_with fail
          go_loop [6, 7] (fun v i => ∃ k : Nat, k ≤ s.size ∧ i = .int .i64 k ∧ v = .int .i64 (T.numOf ((nums s).take k)) ∧ ∀ c ∈ (nums s).take k, isDigit c = true) (fun _ i => s.size - (intOf i).toNat)
          case atStart => exact ⟨0, by omega, rfl, rfl, by simp⟩
          case round =>
            obtain ⟨k, hk, rfl, rfl, hd⟩ := hrel
            have Hd := Lib.hid hd
            clear hd
            by_cases hlt : k < s.size
            · have Ht := Lib.hid (take_nums hlt)
              obtain ⟨n0, n1⟩ := num_small (l := (nums s).take k) (by rw [List.length_take]; omega) Hd.out
              have Hv : Hid (T.numOf ((nums s).take (k + 1)) = 10 * T.numOf ((nums s).take k) + (s[k].toNat : Int) - 48) := Lib.hid (by rw [Ht.out, num_snoc]; omega)
              have Hn := Lib.hid (Hno.out k hlt)
              generalize T.numOf ((nums s).take k) = v at *
              obtain ⟨b0, b1⟩ := byte_bd s[k]
              by_cases c1 : (s[k].toNat : Int) < 48
              · have hfin := Lib.hid (Hn.out (by unfold isDigit; exact decide_eq_false (by omega)))
                go_wp2_with fail
                go_ret2
                exact num_ret 0 hfin.out (Below.refl _ _)
              · by_cases c2 : 57 < (s[k].toNat : Int)
                · have hfin := Lib.hid (Hn.out (by unfold isDigit; exact decide_eq_false (by omega)))
                  go_wp2_with fail
                  go_ret2
                  exact num_ret 0 hfin.out (Below.refl _ _)
                · have Hdk : Hid (∀ c ∈ (nums s).take (k + 1), isDigit c = true) := Lib.hid (fun c hc => by
                    rw [Ht.out] at hc
                    rcases List.mem_append.1 hc with h | h
                    · exact Hd.out c h
                    · have : c = (s[k].toNat : Int) := by simpa using h
                      rw [this]; unfold isDigit; exact decide_eq_true (by omega))
                  go_wp2_with fail
                  go_round
                  case rel => exact ⟨k + 1, by omega, by go_num, by rw [Hv.out], Hdk.out⟩
                  case measure => simp [intOf]; omega
            · have e : (nums s).take k = nums s := List.take_of_length_le (by rw [nums_length]; omega)
              rw [e] at Hd ⊢
              have HW := Lib.hid (Hyes.out Hd.out)
              clear e
              generalize T.numOf (nums s) = v at *
              go_wp2_with fail
              go_ret2
              exact num_ret v HW.out (Below.refl _ _)
    · rw [whole_no (.inr (.inl (by rw [nums_length]; omega)))]
      go_enter Tryd.func95, Tryd.ntmps95
      go_wp2_with fail
      go_ret2
      exact num_ret 0 rfl (Below.refl _ _)
  · have hz0 : ((s.size : Int) == 0) = true := by rw [beq_iff_eq]; omega
    rw [whole_no (.inl (nums_nil (by omega)))]
    go_enter Tryd.func95, Tryd.ntmps95
    go_wp2_with fail
    go_ret2
    exact num_ret 0 rfl (Below.refl _ _)
end Go.Proofs.YtejhphnlickjlaaDoor.ty
