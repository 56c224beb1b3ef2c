/-
  The contract of Of of package value: kinds that are none; numbers. Condition: the table of keywords stands in memory.
-/
import Derived.Test.YtejhphnlickjlaaDoorVaG
namespace Go.Proofs.YtejhphnlickjlaaDoor.ty
open Go.ChangeShapes Go.WideShapes Go.RowKit
open M T W
set_option linter.unusedVariables false
section
variable {s : ByteArray} {w : World} {wb pb cb : Bool} {x k i o : Int}
set_option maxHeartbeats 1600000 in
theorem Of_else (hwp : wb = true ∨ pb = true) (k0 : k ≠ 0) (k1 : k ≠ 1) (k2 : k ≠ 2) (k3 : k ≠ 3) (k4 : k ≠ 4) (HW : Hid (Sort38 w s k i o 38 wb)) (HP : Hid (Sort38 w s k i o 39 pb)) : Calls Tryd.prog 8 #[.string s, vT k i o] w fun e w' => e = .returned (.bool false) ∧ Below w.heap.size w w' := by
  unfold vT
  have h0 := Env.new w s k i o
  have hwp2 : (wb || pb) = true := by rcases hwp with rfl | rfl <;> simp
  have b0 : (k == 0) = false := by rw [beq_eq_false_iff_ne]; exact k0
  have b1 : (k == 1) = false := by rw [beq_eq_false_iff_ne]; exact k1
  have b2 : (k == 2) = false := by rw [beq_eq_false_iff_ne]; exact k2
  have b3 : (k == 3) = false := by rw [beq_eq_false_iff_ne]; exact k3
  have b4 : (k == 4) = false := by rw [beq_eq_false_iff_ne]; exact k4
  clear hwp k0 k1 k2 k3 k4
  cases wb <;> cases pb
  all_goals (try (exact absurd hwp2 (by decide)))
  all_goals
    clear hwp2
    go_enter Tryd.func8, Tryd.ntmps8
    go_wp2_with (first
      | (go_at_call 38; refine (HW.out _ (by assumption)).mono ?_; rintro e w1 ⟨rfl, h1⟩; obtain ⟨c0, c1, c2, -, -, -⟩ := h1.1.cells; have c3 := h1.2.2)
      | (go_at_call 39; refine (HP.out _ (by assumption)).mono ?_; rintro e w2 ⟨rfl, h2⟩; obtain ⟨d0, d1, d2, -, -, -⟩ := h2.1.cells; have d3 := h2.2.2))
    all_goals
      go_ret
      exact ⟨rfl, (by first | exact h2.1.1 | exact h1.1.1)⟩
theorem Env.drewI {W : World} (h : Env w W s k i o) : Env w W.drew s k i o := h.drew
set_option maxHeartbeats 3200000 in
theorem Of_int_whole (HW : Hid (Sort38 w s 1 i 0 38 true)) (HX : Hid (∀ W, Calls Tryd.prog 40 #[.string s, .int .i64 i] W fun e w' => e = .returned (.int .i64 x) ∧ W = w')) : Calls Tryd.prog 8 #[.string s, vT 1 i 0] w fun e w' => e = .returned (.bool (x == i)) ∧ Below w.heap.size w w' := by
  unfold vT
  have h0 := Env.new w s 1 i 0
  go_enter Tryd.func8, Tryd.ntmps8
  go_wp2_with (go_at_call 38; refine (HW.out _ (by assumption)).mono ?_; rintro e w1 ⟨rfl, h1⟩; obtain ⟨c0, c1, c2, -, -, -⟩ := h1.1.cells; have c3 := h1.2.2)
  have h1d := h1.drew
  go_region_with (first
    | (go_at_call 38; refine (HW.out _ (by assumption)).mono ?_; rintro e w2 ⟨rfl, h2⟩; obtain ⟨d0, d1, d2, -, -, -⟩ := h2.1.cells; have d3 := h2.2.2)
    | (go_at_call 40; refine (HX.out _).mono ?_; rintro e w3 ⟨rfl, rfl⟩))
  all_goals
    go_wp2_with fail
    go_ret
    exact ⟨rfl, h2.1.1⟩
end
end Go.Proofs.YtejhphnlickjlaaDoor.ty
