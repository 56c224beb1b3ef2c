/-
  The contract of number of package types, and of Whole of the reference. No condition but a text that is no longer than a text may be.
-/
import Derived.Test.YtejhphnlickjlaaDoorTyC
namespace Go.Proofs.YtejhphnlickjlaaDoor.ty
open Go.ChangeShapes Go.WideShapes Go.RowKit
open M T
set_option linter.unusedVariables false
theorem num_snoc (l : List Int) (c : Int) : T.numOf (l ++ [c]) = 10 * T.numOf l + (c - 48) := by simp [T.numOf, List.foldl_append]
theorem num_bd : ∀ (n : Nat) (l : List Int), l.length = n → (∀ c ∈ l, isDigit c = true) → 0 ≤ T.numOf l ∧ T.numOf l < 10 ^ n
  | 0, l, h, _ => by
    have : l = [] := List.eq_nil_of_length_eq_zero h
    subst this
    exact ⟨by simp [T.numOf], by simp [T.numOf]⟩
  | n + 1, l, h, hd => by
    rcases List.eq_nil_or_concat l with rfl | ⟨a, c, rfl⟩
    · simp at h
    · rw [List.concat_eq_append] at *
      obtain ⟨h1, h2⟩ := num_bd n a (by simpa using h) (fun x hx => hd x (by simp [hx]))
      have hc := of_decide_eq_true (hd c (by simp))
      rw [num_snoc, Int.pow_succ]
      omega
theorem num_small {l : List Int} (h : l.length ≤ 14) (hd : ∀ c ∈ l, isDigit c = true) : 0 ≤ T.numOf l ∧ T.numOf l < 100000000000000 := by
  obtain ⟨h1, h2⟩ := num_bd l.length l rfl hd
  refine ⟨h1, Int.lt_of_lt_of_le h2 ?_⟩
  have : (10 : Int) ^ l.length ≤ 10 ^ 14 := by
    have h3 : (10 : Nat) ^ l.length ≤ 10 ^ 14 := Nat.pow_le_pow_right (by omega) h
    exact_mod_cast h3
  simpa using this
theorem whole_no {l : List Int} (h : l = [] ∨ 15 < l.length ∨ (1 < l.length ∧ l.head? = some 48) ∨ ∃ c ∈ l, isDigit c = false) : whole l = false := by
  unfold whole
  apply decide_eq_false
  rintro ⟨h1, h2, h3, h4, -⟩
  rcases h with h | h | h | ⟨c, hc, h⟩
  · exact h1 h
  · omega
  · exact h3 h.1 h.2
  · rw [h4 c hc] at h; cases h
theorem whole_yes {l : List Int} (h1 : l ≠ []) (h2 : l.length ≤ 15) (h3 : 1 < l.length → l.head? ≠ some 48) (h4 : ∀ c ∈ l, isDigit c = true) : whole l = decide (T.numOf l ≤ 1099511627776) := by
  unfold whole
  rw [Bool.eq_iff_iff, decide_eq_true_iff, decide_eq_true_iff]
  exact ⟨fun h => h.2.2.2.2, fun h => ⟨h1, h2, h3, h4, h⟩⟩
theorem take_nums {s : ByteArray} {k : Nat} (h : k < s.size) : (nums s).take (k + 1) = (nums s).take k ++ [(s[k].toNat : Int)] := by
  rw [List.take_add_one, nums_get s k h]; rfl
def NumS (b : Bool) (w : World) (e : Ending) (w' : World) : Prop := (∃ n : Int, e = .returned (.tuple #[.int .i64 n, .bool b])) ∧ Below w.heap.size w w'
theorem num_ret {b c : Bool} {w w' : World} (n : Int) (h : b = c) (hb : Below w.heap.size w w') : NumS b w (.returned (.tuple #[.int .i64 n, .bool c])) w' := ⟨⟨n, by rw [h]⟩, hb⟩
theorem nums_head {s : ByteArray} (h : 0 < s.size) : (nums s).head? = some (s[0].toNat : Int) := by
  have := sfx_cons s 0 h
  rw [sfx_zero] at this
  rw [this]; rfl
theorem nums_nil {s : ByteArray} (h : s.size = 0) : nums s = [] := List.eq_nil_of_length_eq_zero (by rw [nums_length]; exact h)
theorem nums_ne {s : ByteArray} (h : 0 < s.size) : nums s ≠ [] := by intro e; have := nums_length s; rw [e] at this; simp at this; omega
theorem below_new (w : World) (R : Array Value) (fr : Nat × Nat) : Below w.heap.size w (w.alloc (.cells R 5 fr)).drew := ((Below.refl _ _).alloc (Nat.le_refl _) _).drew
set_option maxHeartbeats 1600000 in
theorem number_any (s : ByteArray) (w : World) (hs : s.size ≤ maxLen) : Calls Tryd.prog 122 #[.string s] w (NumS (whole (nums s)) w) := by
  have hcv := fun w : World => run_bytes_of_string (P := Tryd.prog) w 9 25 5 s Tryd.underlying9 Tryd.underlying25 Tryd.underlying5
  by_cases h0 : 0 < s.size
  · have hne : ¬ s.toList = [] := by rw [empty_iff]; omega
    have hne2 : s.toList.isEmpty = false := by simpa using hne
    by_cases h15 : s.size ≤ 15
    · by_cases hz : 1 < s.size ∧ (s[0].toNat : Int) = 48
      · obtain ⟨hz1, hz2⟩ := hz
        rw [whole_no (.inr (.inr (.inl ⟨by rw [nums_length]; exact hz1, by rw [nums_head h0, hz2]⟩)))]
        have hb : ((s[0].toNat : Int) == 48) = true := by simp [hz2]
        clear hz2 hcv
        go_enter Tryd.func122, Tryd.ntmps122
        go_wp2_with fail
        go_ret2
        exact num_ret 0 rfl (Below.refl _ _)
      · have Hz : Hid (1 < (nums s).length → (nums s).head? ≠ some 48) := Lib.hid (fun h1 h2 => hz ⟨by rwa [nums_length] at h1, by rw [nums_head h0] at h2; exact Option.some.inj h2⟩)
        have Hno : Hid (∀ k (h : k < s.size), isDigit (s[k].toNat : Int) = false → whole (nums s) = false) := Lib.hid (fun k h hd => whole_no (.inr (.inr (.inr ⟨_, List.mem_of_getElem? (nums_get s k h), hd⟩))))
        have Hyes : Hid ((∀ c ∈ nums s, isDigit c = true) → whole (nums s) = decide (T.numOf (nums s) ≤ 1099511627776)) := Lib.hid (fun h => whole_yes (nums_ne h0) (by rw [nums_length]; exact h15) Hz.out h)
        generalize whole (nums s) = W at *
        have hw1 : 1 < s.size → ((s[0].toNat : Int) == 48) = false := fun h => by simp; intro e; exact hz ⟨h, e⟩
        clear hz
        by_cases hs1 : 1 < s.size
        case' pos => have hb0 := hw1 hs1
        all_goals
          clear hw1
          go_enter Tryd.func122, Tryd.ntmps122
          go_wp2_with fail
          clear hcv
          go_loop [4, 27] (fun v i => ∃ k : Nat, k ≤ s.size ∧ i = .int .i64 k ∧ v = .int .i64 (T.numOf ((nums s).take k)) ∧ ∀ c ∈ (nums s).take k, isDigit c = true) (fun _ i => s.size - (intOf i).toNat)
          case atStart => exact ⟨0, by omega, rfl, rfl, by simp⟩
          case round =>
            obtain ⟨k, hk, rfl, rfl, hd⟩ := hrel
            have Hd := Lib.hid hd
            clear hd
            by_cases hlt : k < s.size
            · have Ht := Lib.hid (take_nums hlt)
              obtain ⟨n0, n1⟩ := num_small (l := (nums s).take k) (by rw [List.length_take]; omega) Hd.out
              have Hv : Hid (T.numOf ((nums s).take (k + 1)) = 10 * T.numOf ((nums s).take k) + ((s[k].toNat : Int) - 48)) := Lib.hid (by rw [Ht.out, num_snoc])
              have Hn := Lib.hid (Hno.out k hlt)
              generalize T.numOf ((nums s).take k) = v at *
              have hR : (bytesRow s (grownCap w s.size 0 5))[k]? = some (.int .u8 (s[k].toNat : Int)) := bytesRow_at s _ k hlt
              have hb := below_new w (bytesRow s (grownCap w s.size 0 5)) ((bytesRow s (grownCap w s.size 0 5)).size, (bytesRow s (grownCap w s.size 0 5)).size + 1)
              have hc : (w.alloc (.cells (bytesRow s (grownCap w s.size 0 5)) 5 ((bytesRow s (grownCap w s.size 0 5)).size, (bytesRow s (grownCap w s.size 0 5)).size + 1))).cell? ⟨w.heap.size, k, none⟩ = some (.int .u8 (s[k].toNat : Int)) := (World.cell?_alloc_mark w _ _ _ k).trans hR
              obtain ⟨b0, b1⟩ := byte_bd s[k]
              clear hR
              by_cases c1 : (s[k].toNat : Int) < 48
              · have hfin := Lib.hid (Hn.out (by unfold isDigit; exact decide_eq_false (by omega)))
                go_wp2_with fail
                go_ret2
                exact num_ret 0 hfin.out hb
              · by_cases c2 : 57 < (s[k].toNat : Int)
                · have hfin := Lib.hid (Hn.out (by unfold isDigit; exact decide_eq_false (by omega)))
                  go_wp2_with fail
                  go_ret2
                  exact num_ret 0 hfin.out hb
                · have Hdk : Hid (∀ c ∈ (nums s).take (k + 1), isDigit c = true) := Lib.hid (fun c hc => by
                    rw [Ht.out] at hc
                    rcases List.mem_append.1 hc with h | h
                    · exact Hd.out c h
                    · have : c = (s[k].toNat : Int) := by simpa using h
                      rw [this]; unfold isDigit; exact decide_eq_true (by omega))
                  go_wp2_with fail
                  go_round
                  case rel => exact ⟨k + 1, by omega, by go_num, by rw [Hv.out], Hdk.out⟩
                  case measure => simp [intOf]; omega
            · have e : (nums s).take k = nums s := List.take_of_length_le (by rw [nums_length]; omega)
              have hb := below_new w (bytesRow s (grownCap w s.size 0 5)) ((bytesRow s (grownCap w s.size 0 5)).size, (bytesRow s (grownCap w s.size 0 5)).size + 1)
              rw [e] at Hd ⊢
              have HW := Lib.hid (Hyes.out Hd.out)
              clear e
              generalize T.numOf (nums s) = v at *
              go_wp2_with fail
              go_ret2
              exact num_ret v HW.out hb
    · rw [whole_no (.inr (.inl (by rw [nums_length]; omega)))]
      clear hcv
      go_enter Tryd.func122, Tryd.ntmps122
      go_wp2_with fail
      go_ret2
      exact num_ret 0 rfl (Below.refl _ _)
  · rw [whole_no (.inl (nums_nil (by omega)))]
    have he : s.toList = [] := by rw [empty_iff]; omega
    clear hcv
    go_enter Tryd.func122, Tryd.ntmps122
    go_wp2_with fail
    go_ret2
    exact num_ret 0 rfl (Below.refl _ _)
end Go.Proofs.YtejhphnlickjlaaDoor.ty
