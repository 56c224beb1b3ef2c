/-
  The contract of Of of the reference, kind by kind. No condition but lengths.
-/
import Derived.Test.YtejhphnlickjlaaDoorVaK
namespace Go.Proofs.YtejhphnlickjlaaDoor.ty
open Go.ChangeShapes Go.WideShapes Go.RowKit
open M T W
set_option linter.unusedVariables false
def Ptr2 (w : World) (s : ByteArray) (k i o : Int) (p f : Bool) : Prop := ∀ W, Own w W k i o → Calls Tryd.prog 42 #[.string s] W fun e w' => e = .returned (.tuple #[.bool p, .bool f]) ∧ Own w w' k i o
section
variable {s : ByteArray} {w : World} {pb cb : Bool} {m : Nat} {x i o : Int}
set_option maxHeartbeats 3200000 in
theorem Of2_ptr (hwp : m ≠ 0 ∨ pb = true) (HP : Hid (Ptr2 w s 2 i o pb cb)) (HB : Hid (∀ W, Calls Tryd.prog 43 #[.string s] W fun e w' => e = .returned (.int .i64 (m : Nat)) ∧ w' = W)) : Calls Tryd.prog 9 #[.string s, vT 2 i o] w fun e w' => e = .returned (.bool (pb && !cb && decide (0 ≤ i) && decide (0 ≤ o))) ∧ Below w.heap.size w w' := by
  unfold vT
  have h0 : Own w (w.alloc (.cells #[.int .i64 2, .int .i64 i, .int .i64 o] 24)) 2 i o := ⟨(Below.refl _ _).alloc (Nat.le_refl _) _, heap_alloc_new w _⟩
  have hm : ((m : Int) == 0) = decide (m = 0) := by rw [Bool.eq_iff_iff, beq_iff_eq, decide_eq_true_iff]; omega
  have hwp2 : (!decide (m = 0) || pb) = true := by rcases hwp with h | rfl <;> simp [*]
  clear hwp
  generalize decide (m = 0) = mb at hm hwp2
  by_cases hi : 0 ≤ i
  all_goals by_cases ho : 0 ≤ o
  all_goals
    cases mb <;> cases pb <;> cases cb
    all_goals (try (exact absurd hwp2 (by decide)))
    all_goals
      clear hwp2
      go_enter Tryd.func9, Tryd.ntmps9
      go_wp2_with (first
        | (go_at_call 42; refine (HP.out _ (by assumption)).mono ?_; rintro e w1 ⟨rfl, h1⟩; obtain ⟨c0, c1, c2, -, -, -⟩ := h1.cells)
        | (go_at_call 43; refine (HB.out _).mono ?_; rintro e w2 ⟨rfl, rfl⟩))
      all_goals
        go_ret
        exact ⟨ret_bool (by simp [*]), h1.1⟩
set_option maxHeartbeats 3200000 in
theorem Of2_func (hwp : m ≠ 0 ∨ pb = true) (HP : Hid (Ptr2 w s 4 i o pb cb)) (HB : Hid (∀ W, Calls Tryd.prog 43 #[.string s] W fun e w' => e = .returned (.int .i64 (m : Nat)) ∧ w' = W)) : Calls Tryd.prog 9 #[.string s, vT 4 i o] w fun e w' => e = .returned (.bool (cb && decide (0 ≤ i) && decide (o = 0))) ∧ Below w.heap.size w w' := by
  unfold vT
  have h0 : Own w (w.alloc (.cells #[.int .i64 4, .int .i64 i, .int .i64 o] 24)) 4 i o := ⟨(Below.refl _ _).alloc (Nat.le_refl _) _, heap_alloc_new w _⟩
  have hm : ((m : Int) == 0) = decide (m = 0) := by rw [Bool.eq_iff_iff, beq_iff_eq, decide_eq_true_iff]; omega
  have hwp2 : (!decide (m = 0) || pb) = true := by rcases hwp with h | rfl <;> simp [*]
  clear hwp
  generalize decide (m = 0) = mb at hm hwp2
  by_cases hi : 0 ≤ i
  all_goals rcases eq0_cases o with ⟨rfl, -⟩ | ⟨ho, bo⟩
  all_goals
    cases mb <;> cases pb <;> cases cb
    all_goals (try (exact absurd hwp2 (by decide)))
    all_goals
      clear hwp2
      go_enter Tryd.func9, Tryd.ntmps9
      go_wp2_with (first
        | (go_at_call 42; refine (HP.out _ (by assumption)).mono ?_; rintro e w1 ⟨rfl, h1⟩; obtain ⟨c0, c1, c2, -, -, -⟩ := h1.cells)
        | (go_at_call 43; refine (HB.out _).mono ?_; rintro e w2 ⟨rfl, rfl⟩))
      all_goals
        go_ret
        exact ⟨ret_bool (by simp [*]), h1.1⟩
end
end Go.Proofs.YtejhphnlickjlaaDoor.ty
namespace Go.Proofs.YtejhphnlickjlaaDoor.ty
open Go.ChangeShapes Go.WideShapes Go.RowKit
open M T W
set_option linter.unusedVariables false
section
variable {s : ByteArray} {w : World} {pb cb : Bool} {m : Nat} {x i o : Int}
set_option maxHeartbeats 3200000 in
theorem Of2_zero (hwp : m ≠ 0 ∨ pb = true) (HP : Hid (Ptr2 w s 0 i o pb cb)) (HB : Hid (∀ W, Calls Tryd.prog 43 #[.string s] W fun e w' => e = .returned (.int .i64 (m : Nat)) ∧ w' = W)) : Calls Tryd.prog 9 #[.string s, vT 0 i o] w fun e w' => e = .returned (.bool (decide (i = 0) && decide (o = 0))) ∧ Below w.heap.size w w' := by
  unfold vT
  have h0 : Own w (w.alloc (.cells #[.int .i64 0, .int .i64 i, .int .i64 o] 24)) 0 i o := ⟨(Below.refl _ _).alloc (Nat.le_refl _) _, heap_alloc_new w _⟩
  have hm : ((m : Int) == 0) = decide (m = 0) := by rw [Bool.eq_iff_iff, beq_iff_eq, decide_eq_true_iff]; omega
  have hwp2 : (!decide (m = 0) || pb) = true := by rcases hwp with h | rfl <;> simp [*]
  clear hwp
  generalize decide (m = 0) = mb at hm hwp2
  rcases eq0_cases i with ⟨rfl, -⟩ | ⟨hi, bi⟩
  all_goals rcases eq0_cases o with ⟨rfl, -⟩ | ⟨ho, bo⟩
  all_goals
    cases mb <;> cases pb <;> cases cb
    all_goals (try (exact absurd hwp2 (by decide)))
    all_goals
      clear hwp2
      go_enter Tryd.func9, Tryd.ntmps9
      go_wp2_with (first
        | (go_at_call 42; refine (HP.out _ (by assumption)).mono ?_; rintro e w1 ⟨rfl, h1⟩; obtain ⟨c0, c1, c2, -, -, -⟩ := h1.cells)
        | (go_at_call 43; refine (HB.out _).mono ?_; rintro e w2 ⟨rfl, rfl⟩))
      all_goals
        go_ret
        exact ⟨ret_bool (by simp [*]), h1.1⟩
set_option maxHeartbeats 3200000 in
theorem Of2_null (hwp : m ≠ 0 ∨ pb = true) (HP : Hid (Ptr2 w s 3 i o pb cb)) (HB : Hid (∀ W, Calls Tryd.prog 43 #[.string s] W fun e w' => e = .returned (.int .i64 (m : Nat)) ∧ w' = W)) : Calls Tryd.prog 9 #[.string s, vT 3 i o] w fun e w' => e = .returned (.bool (pb && decide (i = 0) && decide (o = 0))) ∧ Below w.heap.size w w' := by
  unfold vT
  have h0 : Own w (w.alloc (.cells #[.int .i64 3, .int .i64 i, .int .i64 o] 24)) 3 i o := ⟨(Below.refl _ _).alloc (Nat.le_refl _) _, heap_alloc_new w _⟩
  have hm : ((m : Int) == 0) = decide (m = 0) := by rw [Bool.eq_iff_iff, beq_iff_eq, decide_eq_true_iff]; omega
  have hwp2 : (!decide (m = 0) || pb) = true := by rcases hwp with h | rfl <;> simp [*]
  clear hwp
  generalize decide (m = 0) = mb at hm hwp2
  rcases eq0_cases i with ⟨rfl, -⟩ | ⟨hi, bi⟩
  all_goals rcases eq0_cases o with ⟨rfl, -⟩ | ⟨ho, bo⟩
  all_goals
    cases mb <;> cases pb <;> cases cb
    all_goals (try (exact absurd hwp2 (by decide)))
    all_goals
      clear hwp2
      go_enter Tryd.func9, Tryd.ntmps9
      go_wp2_with (first
        | (go_at_call 42; refine (HP.out _ (by assumption)).mono ?_; rintro e w1 ⟨rfl, h1⟩; obtain ⟨c0, c1, c2, -, -, -⟩ := h1.cells)
        | (go_at_call 43; refine (HB.out _).mono ?_; rintro e w2 ⟨rfl, rfl⟩))
      all_goals
        go_ret
        exact ⟨ret_bool (by simp [*]), h1.1⟩
end
end Go.Proofs.YtejhphnlickjlaaDoor.ty
