/-
  Contracts of digits of the reference's types, and of Whole of its base. No condition but lengths.
-/
import Derived.Test.YtejhphnlickjlaaDoorTyL
namespace Go.Proofs.YtejhphnlickjlaaDoor.ty
open Go.ChangeShapes Go.WideShapes Go.RowKit
open M T
set_option linter.unusedVariables false
/-- how many digits stand at the head -/
def dlen (l : List Int) : Nat := (l.takeWhile isDigit).length
theorem dlen_cons (c : Int) (l : List Int) : dlen (c :: l) = if isDigit c = true then dlen l + 1 else 0 := by
  unfold dlen
  rw [List.takeWhile_cons]
  split <;> simp_all
theorem dlen_le : ∀ (l : List Int), dlen l ≤ l.length
  | [] => by simp [dlen]
  | c :: l => by rw [dlen_cons]; have := dlen_le l; split <;> simp <;> omega
set_option maxHeartbeats 800000 in
theorem digits_any (s : ByteArray) (k0 : Nat) (w : World) (hk0 : k0 ≤ s.size) (hs : s.size ≤ maxLen) :
    Calls Tryd.prog 94 #[.string s, .int .i64 k0] w fun e w' => e = .returned (.int .i64 (k0 + dlen (sfx s k0) : Nat)) ∧ w' = w := by
  unfold maxLen at hs
  generalize hm : k0 + dlen (sfx s k0) = m
  have Hm := Lib.hid hm
  clear hm
  go_enter Tryd.func94, Tryd.ntmps94
  go_wp2_with fail
  go_loop [1] (fun i => ∃ (k : Nat), k ≤ s.size ∧ i = .int .i64 k ∧ k + dlen (sfx s k) = m) (fun i => s.size - (intOf i).toNat)
  case atStart => exact ⟨k0, hk0, rfl, Hm.out⟩
  case round =>
    obtain ⟨k, hk, rfl, hi⟩ := hrel
    have Hi := Lib.hid hi
    clear hi
    by_cases hlt : k < s.size
    · have HC := Lib.hid (sfx_cons s k hlt)
      obtain ⟨b0, b1⟩ := byte_bd s[k]
      by_cases hd : isDigit (s[k].toNat : Int) = true
      · have Hwt : Hid (k + 1 + dlen (sfx s (k + 1)) = m) := Lib.hid (by
          have := Hi.out
          rw [HC.out, dlen_cons, if_pos hd] at this
          omega)
        obtain ⟨c1, c2⟩ := of_decide_eq_true hd
        clear hd
        go_wp2_with fail
        go_round
        case rel => exact ⟨k + 1, by omega, by go_num, Hwt.out⟩
        case measure => simp [intOf]; omega
      · have hd' : isDigit (s[k].toNat : Int) = false := by simpa using hd
        have Hkm : Hid (k = m) := Lib.hid (by
          have := Hi.out
          rw [HC.out, dlen_cons, if_neg hd] at this
          omega)
        have hd2 := of_decide_eq_false hd'
        clear hd hd'
        by_cases c1 : (s[k].toNat : Int) < 48
        · clear hd2
          go_wp2_with fail
          go_ret
          exact ⟨ret_int (by rw [Hkm.out]), rfl⟩
        · have c2 : 57 < (s[k].toNat : Int) := by omega
          clear hd2
          go_wp2_with fail
          go_ret
          exact ⟨ret_int (by rw [Hkm.out]), rfl⟩
    · obtain rfl : k = s.size := by omega
      have Hkm : Hid (s.size = m) := Lib.hid (by
        have := Hi.out
        rw [sfx_nil s _ (Nat.le_refl _)] at this
        exact this)
      go_wp2_with fail
      go_ret
      exact ⟨ret_int (by rw [Hkm.out]), rfl⟩
set_option maxHeartbeats 1600000 in
theorem Whole_any (s : ByteArray) (w : World) (hs : s.size ≤ maxLen) : Calls Tryd.prog 95 #[.string s, .int .i64 1099511627776] w (NumS (whole (nums s)) w) := by
  unfold maxLen at hs
  by_cases h0 : 0 < s.size
  · have hz0 : ((s.size : Int) == 0) = false := by rw [beq_eq_false_iff_ne]; omega
    by_cases h15 : s.size ≤ 15
    · by_cases hz : 1 < s.size ∧ (s[0].toNat : Int) = 48
      · obtain ⟨hz1, hz2⟩ := hz
        rw [whole_no (.inr (.inr (.inl ⟨by rw [nums_length]; exact hz1, by rw [nums_head h0, hz2]⟩)))]
        have hb : ((s[0].toNat : Int) == 48) = true := by simp [hz2]
        clear hz2
        go_enter Tryd.func95, Tryd.ntmps95
        go_wp2_with fail
        go_ret2
        exact num_ret 0 rfl (Below.refl _ _)
      · have Hz : Hid (1 < (nums s).length → (nums s).head? ≠ some 48) := Lib.hid (fun h1 h2 => hz ⟨by rwa [nums_length] at h1, by rw [nums_head h0] at h2; exact Option.some.inj h2⟩)
        have Hno : Hid (∀ k (h : k < s.size), isDigit (s[k].toNat : Int) = false → whole (nums s) = false) := Lib.hid (fun k h hd => whole_no (.inr (.inr (.inr ⟨_, List.mem_of_getElem? (nums_get s k h), hd⟩))))
        have Hyes : Hid ((∀ c ∈ nums s, isDigit c = true) → whole (nums s) = decide (T.numOf (nums s) ≤ 1099511627776)) := Lib.hid (fun h => whole_yes (nums_ne h0) (by rw [nums_length]; exact h15) Hz.out h)
        generalize whole (nums s) = W at *
        have hw1 : 1 < s.size → ((s[0].toNat : Int) == 48) = false := fun h => by simp; intro e; exact hz ⟨h, e⟩
        clear hz
        by_cases hs1 : 1 < s.size
        case' pos => have hb0 := hw1 hs1
        all_goals
          clear hw1
          go_enter Tryd.func95, Tryd.ntmps95
          go_wp2_with fail
          go_loop [6, 7] (fun v i => ∃ k : Nat, k ≤ s.size ∧ i = .int .i64 k ∧ v = .int .i64 (T.numOf ((nums s).take k)) ∧ ∀ c ∈ (nums s).take k, isDigit c = true) (fun _ i => s.size - (intOf i).toNat)
          case atStart => exact ⟨0, by omega, rfl, rfl, by simp⟩
          case round =>
            obtain ⟨k, hk, rfl, rfl, hd⟩ := hrel
            have Hd := Lib.hid hd
            clear hd
            by_cases hlt : k < s.size
            · have Ht := Lib.hid (take_nums hlt)
              obtain ⟨n0, n1⟩ := num_small (l := (nums s).take k) (by rw [List.length_take]; omega) Hd.out
              have Hv : Hid (T.numOf ((nums s).take (k + 1)) = 10 * T.numOf ((nums s).take k) + (s[k].toNat : Int) - 48) := Lib.hid (by rw [Ht.out, num_snoc]; omega)
              have Hn := Lib.hid (Hno.out k hlt)
              generalize T.numOf ((nums s).take k) = v at *
              obtain ⟨b0, b1⟩ := byte_bd s[k]
              by_cases c1 : (s[k].toNat : Int) < 48
              · have hfin := Lib.hid (Hn.out (by unfold isDigit; exact decide_eq_false (by omega)))
                go_wp2_with fail
                go_ret2
                exact num_ret 0 hfin.out (Below.refl _ _)
              · by_cases c2 : 57 < (s[k].toNat : Int)
                · have hfin := Lib.hid (Hn.out (by unfold isDigit; exact decide_eq_false (by omega)))
                  go_wp2_with fail
                  go_ret2
                  exact num_ret 0 hfin.out (Below.refl _ _)
                · have Hdk : Hid (∀ c ∈ (nums s).take (k + 1), isDigit c = true) := Lib.hid (fun c hc => by
                    rw [Ht.out] at hc
                    rcases List.mem_append.1 hc with h | h
                    · exact Hd.out c h
                    · have : c = (s[k].toNat : Int) := by simpa using h
                      rw [this]; unfold isDigit; exact decide_eq_true (by omega))
                  go_wp2_with fail
                  go_round
                  case rel => exact ⟨k + 1, by omega, by go_num, by rw [Hv.out], Hdk.out⟩
                  case measure => simp [intOf]; omega
            · have e : (nums s).take k = nums s := List.take_of_length_le (by rw [nums_length]; omega)
              rw [e] at Hd ⊢
              have HW := Lib.hid (Hyes.out Hd.out)
              clear e
              generalize T.numOf (nums s) = v at *
              go_wp2_with fail
              go_ret2
              exact num_ret v HW.out (Below.refl _ _)
    · rw [whole_no (.inr (.inl (by rw [nums_length]; omega)))]
      go_enter Tryd.func95, Tryd.ntmps95
      go_wp2_with fail
      go_ret2
      exact num_ret 0 rfl (Below.refl _ _)
  · have hz0 : ((s.size : Int) == 0) = true := by rw [beq_iff_eq]; omega
    rw [whole_no (.inl (nums_nil (by omega)))]
    go_enter Tryd.func95, Tryd.ntmps95
    go_wp2_with fail
    go_ret2
    exact num_ret 0 rfl (Below.refl _ _)
end Go.Proofs.YtejhphnlickjlaaDoor.ty
