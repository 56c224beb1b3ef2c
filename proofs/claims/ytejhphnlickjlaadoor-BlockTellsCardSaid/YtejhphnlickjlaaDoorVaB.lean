/-
  Contracts of the sorts of values: pointer, code; and of the reference's pointer and bound. Condition: the table of keywords stands in memory.
-/
import Derived.Test.YtejhphnlickjlaaDoorTyP
set_option linter.unusedVariables false
set_option linter.unusedSimpArgs false
namespace Go.Proofs.YtejhphnlickjlaaDoor.ty
open Go.ChangeShapes Go.WideShapes Go.RowKit
open M T
set_option linter.unusedVariables false
theorem Form2_any (s : ByteArray) (w : World) (hs : s.size ≤ maxLen) : Calls Tryd.prog 76 #[.string s] w fun e w' => e = .returned (.bool (formT (nums s))) ∧ Below w.heap.size w w' := by
  have HF := Lib.hid (form_nums (s := s))
  have HN := Lib.hid (next_all hs s.size 0 w (Nat.zero_le _) (by omega))
  have HZ := Lib.hid (sfx_zero s)
  have Hend : Hid (∀ k', k' ≤ s.size → (sfx s k' = [] ↔ k' = s.size)) := Lib.hid (fun k' hk' => ⟨fun h => sfx_end h hk', fun h => sfx_nil s k' (by omega)⟩)
  generalize formT (nums s) = fb at *
  unfold maxLen at hs
  by_cases h6 : s.size ≤ 65536
  · go_enter Tryd.func76, Tryd.ntmps76
    go_wp2_with fail
    refine HN.out.mono ?_
    rintro e w2 ⟨i, b, rfl, h2⟩
    cases b with
    | false =>
      have H2 := Lib.hid h2
      clear h2
      go_wp2_with fail
      go_ret
      refine ⟨ret_bool ?_, H2.out.2.2⟩
      have h3 := H2.out.2.1 rfl []
      rw [HZ.out] at h3
      cases fb with
      | false => rfl
      | true => exact absurd (HF.out.1 rfl).2 h3
    | true =>
      obtain ⟨k', rfl, h3, h4⟩ := h2.1 rfl
      have H4 := Lib.hid h4
      have H5 := Lib.hid h2.2.2
      clear h2 h4
      by_cases hk : k' = s.size
      · have e1 : ((k' : Int) == (s.size : Int)) = true := by rw [beq_iff_eq, hk]
        have Hk := Lib.hid hk
        clear hk
        go_wp2_with fail
        go_ret
        refine ⟨ret_bool ?_, H5.out⟩
        have h7 := H4.out
        rw [HZ.out, (Hend.out k' h3).2 Hk.out] at h7
        exact (HF.out.2 ⟨h6, h7⟩).symm
      · have e1 : ((k' : Int) == (s.size : Int)) = false := by rw [beq_eq_false_iff_ne]; omega
        have Hk := Lib.hid hk
        clear hk
        go_wp2_with fail
        go_ret
        refine ⟨ret_bool ?_, H5.out⟩
        have h7 := H4.out
        rw [HZ.out] at h7
        cases fb with
        | false => rfl
        | true => exact absurd ((Hend.out k' h3).1 (h7.unique _ (HF.out.1 rfl).2)) Hk.out
  · go_enter Tryd.func76, Tryd.ntmps76
    go_wp2_with fail
    go_ret
    refine ⟨ret_bool ?_, Below.refl _ _⟩
    cases fb with
    | false => rfl
    | true => exact absurd (HF.out.1 rfl).1 h6
theorem bits45_any (s : ByteArray) (w : World) : Calls Tryd.prog 45 #[.string s] w fun e w' => e = .returned (.int .i64 (bitsT (nums s) : Nat)) ∧ w' = w := by
  have a1 := toList_one s 99 99 rfl
  have a2 := toList_one s 115 115 rfl
  have a3 := toList_one s 105 105 rfl
  have a4 := toList_one s 117 117 rfl
  by_cases h1 : nums s = [99]
  · rw [show bitsT (nums s) = 8 from by rw [h1]; rfl]
    rw [decide_eq_true h1] at a1
    clear a2 a3 a4 h1
    go_enter Tryd.func45, Tryd.ntmps45
    go_wp2_with fail
    go_ret
    exact ⟨rfl, rfl⟩
  · rw [decide_eq_false h1] at a1
    by_cases h2 : nums s = [115]
    · rw [show bitsT (nums s) = 16 from by rw [h2]; rfl]
      rw [decide_eq_true h2] at a2
      clear a3 a4 h1 h2
      go_enter Tryd.func45, Tryd.ntmps45
      go_wp2_with fail
      go_ret
      exact ⟨rfl, rfl⟩
    · rw [decide_eq_false h2] at a2
      by_cases h3 : nums s = [105]
      · rw [show bitsT (nums s) = 32 from by rw [h3]; rfl]
        rw [decide_eq_true h3] at a3
        clear a4 h1 h2 h3
        go_enter Tryd.func45, Tryd.ntmps45
        go_wp2_with fail
        go_ret
        exact ⟨rfl, rfl⟩
      · rw [decide_eq_false h3] at a3
        by_cases h4 : nums s = [117]
        · rw [show bitsT (nums s) = 32 from by rw [h4]; rfl]
          rw [decide_eq_true h4] at a4
          clear h1 h2 h3 h4
          go_enter Tryd.func45, Tryd.ntmps45
          go_wp2_with fail
          go_ret
          exact ⟨rfl, rfl⟩
        · rw [show bitsT (nums s) = 0 from by simp [bitsT, h1, h2, h3, h4]]
          rw [decide_eq_false h4] at a4
          clear h1 h2 h3 h4
          go_enter Tryd.func45, Tryd.ntmps45
          go_wp2_with fail
          go_ret
          exact ⟨rfl, rfl⟩
theorem bits43_any (s : ByteArray) (w : World) : Calls Tryd.prog 43 #[.string s] w fun e w' => e = .returned (.int .i64 (bitsT (nums s) : Nat)) ∧ w' = w := by
  have a1 := toList_one s 99 99 rfl
  have a2 := toList_one s 115 115 rfl
  have a3 := toList_one s 105 105 rfl
  have a4 := toList_one s 117 117 rfl
  by_cases h1 : nums s = [99]
  · rw [show bitsT (nums s) = 8 from by rw [h1]; rfl]
    rw [decide_eq_true h1] at a1
    clear a2 a3 a4 h1
    go_enter Tryd.func43, Tryd.ntmps43
    go_wp2_with fail
    go_ret
    exact ⟨rfl, rfl⟩
  · rw [decide_eq_false h1] at a1
    by_cases h2 : nums s = [115]
    · rw [show bitsT (nums s) = 16 from by rw [h2]; rfl]
      rw [decide_eq_true h2] at a2
      clear a3 a4 h1 h2
      go_enter Tryd.func43, Tryd.ntmps43
      go_wp2_with fail
      go_ret
      exact ⟨rfl, rfl⟩
    · rw [decide_eq_false h2] at a2
      by_cases h3 : nums s = [105]
      · rw [show bitsT (nums s) = 32 from by rw [h3]; rfl]
        rw [decide_eq_true h3] at a3
        clear a4 h1 h2 h3
        go_enter Tryd.func43, Tryd.ntmps43
        go_wp2_with fail
        go_ret
        exact ⟨rfl, rfl⟩
      · rw [decide_eq_false h3] at a3
        by_cases h4 : nums s = [117]
        · rw [show bitsT (nums s) = 32 from by rw [h4]; rfl]
          rw [decide_eq_true h4] at a4
          clear h1 h2 h3 h4
          go_enter Tryd.func43, Tryd.ntmps43
          go_wp2_with fail
          go_ret
          exact ⟨rfl, rfl⟩
        · rw [show bitsT (nums s) = 0 from by simp [bitsT, h1, h2, h3, h4]]
          rw [decide_eq_false h4] at a4
          clear h1 h2 h3 h4
          go_enter Tryd.func43, Tryd.ntmps43
          go_wp2_with fail
          go_ret
          exact ⟨rfl, rfl⟩
theorem whole_any (s : ByteArray) (w : World) : Calls Tryd.prog 38 #[.agg #[.string s]] w fun e w' => e = .returned (.bool (decide (bitsT (nums s) ≠ 0))) ∧ Below w.heap.size w w' := by
  have HB := Lib.hid (bits45_any s)
  generalize bitsT (nums s) = n at *
  by_cases h : n = 0
  · rw [decide_eq_false (fun x => x h)]
    go_enter Tryd.func38, Tryd.ntmps38
    go_wp2_with (go_at_call 45; refine (HB.out _).mono ?_; rintro e w1 ⟨rfl, rfl⟩)
    go_ret
    exact ⟨rfl, (Below.refl _ _).alloc (Nat.le_refl _) _⟩
  · rw [decide_eq_true h]
    have hp : 0 < n := by omega
    clear h
    go_enter Tryd.func38, Tryd.ntmps38
    go_wp2_with (go_at_call 45; refine (HB.out _).mono ?_; rintro e w1 ⟨rfl, rfl⟩)
    go_ret
    exact ⟨rfl, (Below.refl _ _).alloc (Nat.le_refl _) _⟩
end Go.Proofs.YtejhphnlickjlaaDoor.ty
namespace Go.Proofs.YtejhphnlickjlaaDoor.ty
open Go.ChangeShapes Go.WideShapes Go.RowKit
open M T
set_option linter.unusedVariables false
/-- a box of one text, laid last -/
def Box (w W : World) (g : Nat) (s : ByteArray) : Prop := Below w.heap.size w W ∧ g < W.heap.size ∧ W.cell? ⟨g, 0, none⟩ = some (.string s)
theorem Box.new (w : World) (s : ByteArray) (t : TypeId) : Box w (w.alloc (.cells #[.string s] t)) w.heap.size s := by
  have hb : (w.alloc (.cells #[.string s] t)).heap[w.heap.size]? = some (.cells #[.string s] t (0, 0)) := heap_alloc_new w _
  exact ⟨(Below.refl _ _).alloc (Nat.le_refl _) _, (Array.getElem?_eq_some_iff.1 hb).1, Go.Joins.cell_of_block hb 0⟩
theorem Box.below {w W W' : World} {g : Nat} {s : ByteArray} (h : Box w W g s) (hb : Below W.heap.size W W') : Box w W' g s :=
  ⟨h.1.trans (hb.mono h.1.size), Nat.lt_of_lt_of_le h.2.1 hb.size, by rw [hb.cell h.2.1]; exact h.2.2⟩
theorem ptr_nums {s : ByteArray} (h : ptrT (nums s) = true) : 2 ≤ s.size := by have := ptr_len h; rwa [nums_length] at this
theorem code_byte {s : ByteArray} (h : 1 < s.size) : codeT (nums s) = (ptrT (nums s) && decide ((s[1].toNat : Int) = 102)) := by
  unfold codeT
  rw [nums_get s 1 h]
  congr 1
  simp
theorem pointer_any (s : ByteArray) (w : World) (hK : KeysIn w) (hs : s.size ≤ maxLen) : Calls Tryd.prog 39 #[.agg #[.string s]] w fun e w' => e = .returned (.bool (ptrT (nums s))) ∧ Below w.heap.size w w' := by
  have HN := Lib.hid (Box.new w s 72)
  have HS : Hid (∀ W, Box w W w.heap.size s → Calls Tryd.prog 73 #[.string s] W fun e w' => e = .returned (.bool (decide (bitsT (nums s) ≠ 0) || ptrT (nums s))) ∧ Box w w' w.heap.size s) := Lib.hid (fun W hW => (IsScalar_any s W (hK.below hW.1) hs).mono fun e w' ⟨h1, h2⟩ => ⟨h1, hW.below h2⟩)
  have HW : Hid (∀ W, Box w W w.heap.size s → Calls Tryd.prog 38 #[.agg #[.string s]] W fun e w' => e = .returned (.bool (decide (bitsT (nums s) ≠ 0))) ∧ Box w w' w.heap.size s) := Lib.hid (fun W hW => (whole_any s W).mono fun e w' ⟨h1, h2⟩ => ⟨h1, hW.below h2⟩)
  clear hK
  by_cases hp : ptrT (nums s) = true
  · rw [decide_eq_false (fun h => h (ptr_bits hp)), hp] at HS
    rw [decide_eq_false (fun h => h (ptr_bits hp))] at HW
    rw [hp]
    clear hp
    go_enter Tryd.func39, Tryd.ntmps39
    go_wp2_with (first
      | (go_at_call 73; refine (HS.out _ HN.out).mono ?_; rintro e w1 ⟨rfl, h1⟩; have c1 := h1.2.2)
      | (go_at_call 38; refine (HW.out _ h1).mono ?_; rintro e w2 ⟨rfl, h2⟩))
    go_ret
    exact ⟨rfl, h2.1⟩
  · have hp' : ptrT (nums s) = false := by simpa using hp
    rw [hp', Bool.or_false] at HS
    rw [hp']
    clear hp hp'
    by_cases hb : bitsT (nums s) = 0
    · rw [decide_eq_false (fun h => h hb)] at HS
      clear hb HW
      go_enter Tryd.func39, Tryd.ntmps39
      go_wp2_with (go_at_call 73; refine (HS.out _ HN.out).mono ?_; rintro e w1 ⟨rfl, h1⟩)
      go_ret
      exact ⟨rfl, h1.1⟩
    · rw [decide_eq_true hb] at HS HW
      clear hb
      go_enter Tryd.func39, Tryd.ntmps39
      go_wp2_with (first
        | (go_at_call 73; refine (HS.out _ HN.out).mono ?_; rintro e w1 ⟨rfl, h1⟩; have c1 := h1.2.2)
        | (go_at_call 38; refine (HW.out _ h1).mono ?_; rintro e w2 ⟨rfl, h2⟩))
      go_ret
      exact ⟨rfl, h2.1⟩
theorem code_any (s : ByteArray) (w : World) (hK : KeysIn w) (hs : s.size ≤ maxLen) : Calls Tryd.prog 41 #[.agg #[.string s]] w fun e w' => e = .returned (.bool (codeT (nums s))) ∧ Below w.heap.size w w' := by
  have HN := Lib.hid (Box.new w s 72)
  have HP : Hid (∀ W, Box w W w.heap.size s → Calls Tryd.prog 39 #[.agg #[.string s]] W fun e w' => e = .returned (.bool (ptrT (nums s))) ∧ Box w w' w.heap.size s) := Lib.hid (fun W hW => (pointer_any s W (hK.below hW.1) hs).mono fun e w' ⟨h1, h2⟩ => ⟨h1, hW.below h2⟩)
  clear hK
  by_cases hp : ptrT (nums s) = true
  · have h2 := ptr_nums hp
    have hl : 1 < s.size := by omega
    rw [hp] at HP
    rw [code_byte hl, hp, Bool.true_and]
    clear hp
    by_cases h : (s[1].toNat : Int) = 102
    · rw [decide_eq_true h]
      go_enter Tryd.func41, Tryd.ntmps41
      go_wp2_with (go_at_call 39; refine (HP.out _ HN.out).mono ?_; rintro e w1 ⟨rfl, h1⟩; have c1 := h1.2.2)
      go_ret
      exact ⟨rfl, h1.1⟩
    · rw [decide_eq_false h]
      have hq : ((s[1].toNat : Int) == 102) = false := by rw [beq_eq_false_iff_ne]; exact h
      clear h
      go_enter Tryd.func41, Tryd.ntmps41
      go_wp2_with (go_at_call 39; refine (HP.out _ HN.out).mono ?_; rintro e w1 ⟨rfl, h1⟩; have c1 := h1.2.2)
      go_ret
      exact ⟨rfl, h1.1⟩
  · have hp' : ptrT (nums s) = false := by simpa using hp
    rw [hp'] at HP
    rw [show codeT (nums s) = false from by unfold codeT; rw [hp', Bool.false_and]]
    clear hp hp'
    go_enter Tryd.func41, Tryd.ntmps41
    go_wp2_with (go_at_call 39; refine (HP.out _ HN.out).mono ?_; rintro e w1 ⟨rfl, h1⟩)
    go_ret
    exact ⟨rfl, h1.1⟩
theorem pointer2_any (s : ByteArray) (w : World) (hs : s.size ≤ maxLen) : Calls Tryd.prog 42 #[.string s] w fun e w' => e = .returned (.tuple #[.bool (ptrT (nums s)), .bool (codeT (nums s))]) ∧ Below w.heap.size w w' := by
  have HF := Lib.hid (Form2_any s w hs)
  unfold maxLen at hs
  have hno : ptrT (nums s) = false → codeT (nums s) = false := fun h => by unfold codeT; rw [h, Bool.false_and]
  by_cases h2 : s.size < 2
  · have hp : ptrT (nums s) = false := by
      cases h : ptrT (nums s) with
      | false => rfl
      | true => have := ptr_nums h; omega
    rw [hno hp, hp]
    clear hno hp HF
    go_enter Tryd.func42, Tryd.ntmps42
    go_wp2_with fail
    go_ret2
    exact ⟨rfl, Below.refl _ _⟩
  · have hl : 1 < s.size := by omega
    have h0 : 0 < s.size := by omega
    have hhd := nums_head h0
    by_cases hc : (s[0].toNat : Int) = 112
    · have hp : ptrT (nums s) = formT (nums s) := by unfold ptrT; rw [hhd, hc, decide_eq_true rfl, Bool.true_and]
      rw [code_byte hl, hp]
      have hq0 : ((s[0].toNat : Int) != 112) = false := by simp; omega
      clear hno hp hhd
      cases hf : formT (nums s) with
      | false =>
        rw [hf] at HF
        rw [Bool.false_and]
        clear hf
        go_enter Tryd.func42, Tryd.ntmps42
        go_wp2_with (go_at_call 76; refine HF.out.mono ?_; rintro e w1 ⟨rfl, h1⟩)
        go_ret2
        exact ⟨rfl, h1⟩
      | true =>
        rw [hf] at HF
        rw [Bool.true_and]
        clear hf
        have hdc : ((s[1].toNat : Int) == 102) = decide ((s[1].toNat : Int) = 102) := by rw [Bool.eq_iff_iff, beq_iff_eq, decide_eq_true_iff]
        rw [← hdc]
        clear hdc
        go_enter Tryd.func42, Tryd.ntmps42
        go_wp2_with (go_at_call 76; refine HF.out.mono ?_; rintro e w1 ⟨rfl, h1⟩)
        go_region_with fail
        all_goals
          go_wp2_with fail
          go_ret2
          exact ⟨rfl, ⟨h1.os, h1.tape, h1.output, h1.size, h1.block⟩⟩
    · have hp : ptrT (nums s) = false := by
        unfold ptrT
        rw [hhd, decide_eq_false (by intro e; injection e with e; exact hc e), Bool.false_and]
      have hq0 : ((s[0].toNat : Int) != 112) = true := by simp; omega
      rw [hno hp, hp]
      clear hno hp HF hhd hc
      go_enter Tryd.func42, Tryd.ntmps42
      go_wp2_with fail
      go_ret2
      exact ⟨rfl, Below.refl _ _⟩
end Go.Proofs.YtejhphnlickjlaaDoor.ty
