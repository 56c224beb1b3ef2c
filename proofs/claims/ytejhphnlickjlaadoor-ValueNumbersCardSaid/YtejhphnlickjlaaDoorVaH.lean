/-
  The contract of Of of package value, kind by kind. Condition: the table of keywords stands in memory.
-/
import Derived.Test.YtejhphnlickjlaaDoorVaG
namespace Go.Proofs.YtejhphnlickjlaaDoor.ty
open Go.ChangeShapes Go.WideShapes Go.RowKit
open M T W
set_option linter.unusedVariables false
theorem eq0_cases (i : Int) : (i = 0 ∧ (i == 0) = true) ∨ (¬ i = 0 ∧ (i == 0) = false) := by
  by_cases h : i = 0
  · exact .inl ⟨h, by rw [beq_iff_eq]; exact h⟩
  · exact .inr ⟨h, by rw [beq_eq_false_iff_ne]; exact h⟩
section
variable {s : ByteArray} {w : World} {wb pb cb : Bool} {x i o : Int}
set_option maxHeartbeats 3200000 in
theorem Of_null (hwp : wb = true ∨ pb = true) (HW : Hid (Sort38 w s 3 i o 38 wb)) (HP : Hid (Sort38 w s 3 i o 39 pb)) (HC : Hid (Sort38 w s 3 i o 41 cb)) : Calls Tryd.prog 8 #[.string s, vT 3 i o] w fun e w' => e = .returned (.bool (pb && decide (i = 0) && decide (o = 0))) ∧ Below w.heap.size w w' := by
  unfold vT
  have h0 := Env.new w s 3 i o
  have hwp2 : (wb || pb) = true := by rcases hwp with rfl | rfl <;> simp
  clear hwp
  rcases eq0_cases i with ⟨rfl, -⟩ | ⟨hi, bi⟩
  all_goals rcases eq0_cases o with ⟨rfl, -⟩ | ⟨ho, bo⟩
  all_goals
    cases wb <;> cases pb <;> cases cb
    all_goals (try (exact absurd hwp2 (by decide)))
    all_goals
      clear hwp2
      go_enter Tryd.func8, Tryd.ntmps8
      go_wp2_with (first
        | (go_at_call 38; refine (HW.out _ (by assumption)).mono ?_; rintro e w1 ⟨rfl, h1⟩; obtain ⟨c0, c1, c2, -, -, -⟩ := h1.1.cells; have c3 := h1.2.2)
        | (go_at_call 39; refine (HP.out _ (by assumption)).mono ?_; rintro e w2 ⟨rfl, h2⟩; obtain ⟨d0, d1, d2, -, -, -⟩ := h2.1.cells; have d3 := h2.2.2)
        | (go_at_call 41; refine (HC.out _ (by assumption)).mono ?_; rintro e w4 ⟨rfl, h4⟩; obtain ⟨e0, e1, e2, -, -, -⟩ := h4.1.cells; have e3 := h4.2.2))
      all_goals
        go_ret
        exact ⟨ret_bool (by simp [*]), (by first | exact h4.1.1 | exact h2.1.1 | exact h1.1.1)⟩
set_option maxHeartbeats 3200000 in
theorem Of_ptr (hwp : wb = true ∨ pb = true) (HW : Hid (Sort38 w s 2 i o 38 wb)) (HP : Hid (Sort38 w s 2 i o 39 pb)) (HC : Hid (Sort38 w s 2 i o 41 cb)) : Calls Tryd.prog 8 #[.string s, vT 2 i o] w fun e w' => e = .returned (.bool (pb && !cb && decide (0 ≤ i) && decide (0 ≤ o))) ∧ Below w.heap.size w w' := by
  unfold vT
  have h0 := Env.new w s 2 i o
  have hwp2 : (wb || pb) = true := by rcases hwp with rfl | rfl <;> simp
  clear hwp
  by_cases hi : 0 ≤ i
  all_goals by_cases ho : 0 ≤ o
  all_goals
    cases wb <;> cases pb <;> cases cb
    all_goals (try (exact absurd hwp2 (by decide)))
    all_goals
      clear hwp2
      go_enter Tryd.func8, Tryd.ntmps8
      go_wp2_with (first
        | (go_at_call 38; refine (HW.out _ (by assumption)).mono ?_; rintro e w1 ⟨rfl, h1⟩; obtain ⟨c0, c1, c2, -, -, -⟩ := h1.1.cells; have c3 := h1.2.2)
        | (go_at_call 39; refine (HP.out _ (by assumption)).mono ?_; rintro e w2 ⟨rfl, h2⟩; obtain ⟨d0, d1, d2, -, -, -⟩ := h2.1.cells; have d3 := h2.2.2)
        | (go_at_call 41; refine (HC.out _ (by assumption)).mono ?_; rintro e w4 ⟨rfl, h4⟩; obtain ⟨e0, e1, e2, -, -, -⟩ := h4.1.cells; have e3 := h4.2.2))
      all_goals
        go_ret
        exact ⟨ret_bool (by simp [*]), (by first | exact h4.1.1 | exact h2.1.1 | exact h1.1.1)⟩
set_option maxHeartbeats 3200000 in
theorem Of_func (hwp : wb = true ∨ pb = true) (HW : Hid (Sort38 w s 4 i o 38 wb)) (HP : Hid (Sort38 w s 4 i o 39 pb)) (HC : Hid (Sort38 w s 4 i o 41 cb)) : Calls Tryd.prog 8 #[.string s, vT 4 i o] w fun e w' => e = .returned (.bool (cb && decide (0 ≤ i) && decide (o = 0))) ∧ Below w.heap.size w w' := by
  unfold vT
  have h0 := Env.new w s 4 i o
  have hwp2 : (wb || pb) = true := by rcases hwp with rfl | rfl <;> simp
  clear hwp
  by_cases hi : 0 ≤ i
  all_goals rcases eq0_cases o with ⟨rfl, -⟩ | ⟨ho, bo⟩
  all_goals
    cases wb <;> cases pb <;> cases cb
    all_goals (try (exact absurd hwp2 (by decide)))
    all_goals
      clear hwp2
      go_enter Tryd.func8, Tryd.ntmps8
      go_wp2_with (first
        | (go_at_call 38; refine (HW.out _ (by assumption)).mono ?_; rintro e w1 ⟨rfl, h1⟩; obtain ⟨c0, c1, c2, -, -, -⟩ := h1.1.cells; have c3 := h1.2.2)
        | (go_at_call 39; refine (HP.out _ (by assumption)).mono ?_; rintro e w2 ⟨rfl, h2⟩; obtain ⟨d0, d1, d2, -, -, -⟩ := h2.1.cells; have d3 := h2.2.2)
        | (go_at_call 41; refine (HC.out _ (by assumption)).mono ?_; rintro e w4 ⟨rfl, h4⟩; obtain ⟨e0, e1, e2, -, -, -⟩ := h4.1.cells; have e3 := h4.2.2))
      all_goals
        go_ret
        exact ⟨ret_bool (by simp [*]), (by first | exact h4.1.1 | exact h2.1.1 | exact h1.1.1)⟩
end
end Go.Proofs.YtejhphnlickjlaaDoor.ty
