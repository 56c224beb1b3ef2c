/-
  Contracts of Form of the reference's types, of bits (twice), of the sorts of values (whole, pointer, code) and of the reference's pointer. Condition: the table of keywords stands in memory.
-/
import Derived.Test.YtejhphnlickjlaaDoorTyP
namespace Go.Proofs.YtejhphnlickjlaaDoor.ty
open Go.ChangeShapes Go.WideShapes Go.RowKit
open M T
set_option linter.unusedVariables false
theorem Form2_any (s : ByteArray) (w : World) (hs : s.size ≤ maxLen) : Calls Tryd.prog 76 #[.string s] w fun e w' => e = .returned (.bool (formT (nums s))) ∧ Below w.heap.size w w' := by
  have HF := Lib.hid (form_nums (s := s))
  have HN := Lib.hid (next_all hs s.size 0 w (Nat.zero_le _) (by omega))
  have HZ := Lib.hid (sfx_zero s)
  have Hend : Hid (∀ k', k' ≤ s.size → (sfx s k' = [] ↔ k' = s.size)) := Lib.hid (fun k' hk' => ⟨fun h => sfx_end h hk', fun h => sfx_nil s k' (by omega)⟩)
  generalize formT (nums s) = fb at *
  unfold maxLen at hs
  by_cases h6 : s.size ≤ 65536
  · go_enter Tryd.func76, Tryd.ntmps76
    go_wp2_with fail
    refine HN.out.mono ?_
    rintro e w2 ⟨i, b, rfl, h2⟩
    cases b with
    | false =>
      have H2 := Lib.hid h2
      clear h2
      go_wp2_with fail
      go_ret
      refine ⟨ret_bool ?_, H2.out.2.2⟩
      have h3 := H2.out.2.1 rfl []
      rw [HZ.out] at h3
      cases fb with
      | false => rfl
      | true => exact absurd (HF.out.1 rfl).2 h3
    | true =>
      obtain ⟨k', rfl, h3, h4⟩ := h2.1 rfl
      have H4 := Lib.hid h4
      have H5 := Lib.hid h2.2.2
      clear h2 h4
      by_cases hk : k' = s.size
      · have e1 : ((k' : Int) == (s.size : Int)) = true := by rw [beq_iff_eq, hk]
        have Hk := Lib.hid hk
        clear hk
        go_wp2_with fail
        go_ret
        refine ⟨ret_bool ?_, H5.out⟩
        have h7 := H4.out
        rw [HZ.out, (Hend.out k' h3).2 Hk.out] at h7
        exact (HF.out.2 ⟨h6, h7⟩).symm
      · have e1 : ((k' : Int) == (s.size : Int)) = false := by rw [beq_eq_false_iff_ne]; omega
        have Hk := Lib.hid hk
        clear hk
        go_wp2_with fail
        go_ret
        refine ⟨ret_bool ?_, H5.out⟩
        have h7 := H4.out
        rw [HZ.out] at h7
        cases fb with
        | false => rfl
        | true => exact absurd ((Hend.out k' h3).1 (h7.unique _ (HF.out.1 rfl).2)) Hk.out
  · go_enter Tryd.func76, Tryd.ntmps76
    go_wp2_with fail
    go_ret
    refine ⟨ret_bool ?_, Below.refl _ _⟩
    cases fb with
    | false => rfl
    | true => exact absurd (HF.out.1 rfl).1 h6
theorem bits45_any (s : ByteArray) (w : World) : Calls Tryd.prog 45 #[.string s] w fun e w' => e = .returned (.int .i64 (bitsT (nums s) : Nat)) ∧ w' = w := by
  have a1 := toList_one s 99 99 rfl
  have a2 := toList_one s 115 115 rfl
  have a3 := toList_one s 105 105 rfl
  have a4 := toList_one s 117 117 rfl
  by_cases h1 : nums s = [99]
  · rw [show bitsT (nums s) = 8 from by rw [h1]; rfl]
    rw [decide_eq_true h1] at a1
    clear a2 a3 a4 h1
    go_enter Tryd.func45, Tryd.ntmps45
    go_wp2_with fail
    go_ret
    exact ⟨rfl, rfl⟩
  · rw [decide_eq_false h1] at a1
    by_cases h2 : nums s = [115]
    · rw [show bitsT (nums s) = 16 from by rw [h2]; rfl]
      rw [decide_eq_true h2] at a2
      clear a3 a4 h1 h2
      go_enter Tryd.func45, Tryd.ntmps45
      go_wp2_with fail
      go_ret
      exact ⟨rfl, rfl⟩
    · rw [decide_eq_false h2] at a2
      by_cases h3 : nums s = [105]
      · rw [show bitsT (nums s) = 32 from by rw [h3]; rfl]
        rw [decide_eq_true h3] at a3
        clear a4 h1 h2 h3
        go_enter Tryd.func45, Tryd.ntmps45
        go_wp2_with fail
        go_ret
        exact ⟨rfl, rfl⟩
      · rw [decide_eq_false h3] at a3
        by_cases h4 : nums s = [117]
        · rw [show bitsT (nums s) = 32 from by rw [h4]; rfl]
          rw [decide_eq_true h4] at a4
          clear h1 h2 h3 h4
          go_enter Tryd.func45, Tryd.ntmps45
          go_wp2_with fail
          go_ret
          exact ⟨rfl, rfl⟩
        · rw [show bitsT (nums s) = 0 from by simp [bitsT, h1, h2, h3, h4]]
          rw [decide_eq_false h4] at a4
          clear h1 h2 h3 h4
          go_enter Tryd.func45, Tryd.ntmps45
          go_wp2_with fail
          go_ret
          exact ⟨rfl, rfl⟩
theorem bits43_any (s : ByteArray) (w : World) : Calls Tryd.prog 43 #[.string s] w fun e w' => e = .returned (.int .i64 (bitsT (nums s) : Nat)) ∧ w' = w := by
  have a1 := toList_one s 99 99 rfl
  have a2 := toList_one s 115 115 rfl
  have a3 := toList_one s 105 105 rfl
  have a4 := toList_one s 117 117 rfl
  by_cases h1 : nums s = [99]
  · rw [show bitsT (nums s) = 8 from by rw [h1]; rfl]
    rw [decide_eq_true h1] at a1
    clear a2 a3 a4 h1
    go_enter Tryd.func43, Tryd.ntmps43
    go_wp2_with fail
    go_ret
    exact ⟨rfl, rfl⟩
  · rw [decide_eq_false h1] at a1
    by_cases h2 : nums s = [115]
    · rw [show bitsT (nums s) = 16 from by rw [h2]; rfl]
      rw [decide_eq_true h2] at a2
      clear a3 a4 h1 h2
      go_enter Tryd.func43, Tryd.ntmps43
      go_wp2_with fail
      go_ret
      exact ⟨rfl, rfl⟩
    · rw [decide_eq_false h2] at a2
      by_cases h3 : nums s = [105]
      · rw [show bitsT (nums s) = 32 from by rw [h3]; rfl]
        rw [decide_eq_true h3] at a3
        clear a4 h1 h2 h3
        go_enter Tryd.func43, Tryd.ntmps43
        go_wp2_with fail
        go_ret
        exact ⟨rfl, rfl⟩
      · rw [decide_eq_false h3] at a3
        by_cases h4 : nums s = [117]
        · rw [show bitsT (nums s) = 32 from by rw [h4]; rfl]
          rw [decide_eq_true h4] at a4
          clear h1 h2 h3 h4
          go_enter Tryd.func43, Tryd.ntmps43
          go_wp2_with fail
          go_ret
          exact ⟨rfl, rfl⟩
        · rw [show bitsT (nums s) = 0 from by simp [bitsT, h1, h2, h3, h4]]
          rw [decide_eq_false h4] at a4
          clear h1 h2 h3 h4
          go_enter Tryd.func43, Tryd.ntmps43
          go_wp2_with fail
          go_ret
          exact ⟨rfl, rfl⟩
theorem whole_any (s : ByteArray) (w : World) : Calls Tryd.prog 38 #[.agg #[.string s]] w fun e w' => e = .returned (.bool (decide (bitsT (nums s) ≠ 0))) ∧ Below w.heap.size w w' := by
  have HB := Lib.hid (bits45_any s)
  generalize bitsT (nums s) = n at *
  by_cases h : n = 0
  · rw [decide_eq_false (fun x => x h)]
    go_enter Tryd.func38, Tryd.ntmps38
    go_wp2_with (go_at_call 45; refine (HB.out _).mono ?_; rintro e w1 ⟨rfl, rfl⟩)
    go_ret
    exact ⟨rfl, (Below.refl _ _).alloc (Nat.le_refl _) _⟩
  · rw [decide_eq_true h]
    have hp : 0 < n := by omega
    clear h
    go_enter Tryd.func38, Tryd.ntmps38
    go_wp2_with (go_at_call 45; refine (HB.out _).mono ?_; rintro e w1 ⟨rfl, rfl⟩)
    go_ret
    exact ⟨rfl, (Below.refl _ _).alloc (Nat.le_refl _) _⟩
end Go.Proofs.YtejhphnlickjlaaDoor.ty
