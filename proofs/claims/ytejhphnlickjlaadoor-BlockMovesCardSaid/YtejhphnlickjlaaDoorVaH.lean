/-
  The contract of Of of package value, kind by kind. Condition: the table of keywords stands in memory.
-/
import Derived.Test.YtejhphnlickjlaaDoorVaF
set_option linter.unusedVariables false
set_option linter.unusedSimpArgs false
namespace Go.Proofs.YtejhphnlickjlaaDoor.ty
open Go.ChangeShapes Go.WideShapes Go.RowKit
open M T W
set_option linter.unusedVariables false
/-- what Of answers -/
def ofV (wb pb cb : Bool) (x k i o : Int) : Bool :=
  (wb || pb) && (if k = 0 then decide (i = 0) && decide (o = 0) else if k = 1 then wb && decide (o = 0) && decide (x = i) else if k = 3 then pb && decide (i = 0) && decide (o = 0)
    else if k = 2 then pb && !cb && decide (0 ≤ i) && decide (0 ≤ o) else if k = 4 then cb && decide (0 ≤ i) && decide (o = 0) else false)
/-- the variables of Of: the value, the sort -/
def Env (w W : World) (s : ByteArray) (k i o : Int) : Prop := Own w W k i o ∧ w.heap.size + 1 < W.heap.size ∧ W.cell? ⟨w.heap.size + 1, 0, none⟩ = some (.string s)
theorem Env.new (w : World) (s : ByteArray) (k i o : Int) : Env w ((w.alloc (.cells #[.int .i64 k, .int .i64 i, .int .i64 o] 24)).alloc (.cells #[.string s] 72)) s k i o := by
  have h1 : Own w (w.alloc (.cells #[.int .i64 k, .int .i64 i, .int .i64 o] 24)) k i o := ⟨(Below.refl _ _).alloc (Nat.le_refl _) _, heap_alloc_new w _⟩
  have h2 := h1.below ((Below.refl _ _).alloc (Nat.le_refl _) (.cells #[.string s] 72))
  have hb : ((w.alloc (.cells #[.int .i64 k, .int .i64 i, .int .i64 o] 24)).alloc (.cells #[.string s] 72)).heap[(w.alloc (.cells #[.int .i64 k, .int .i64 i, .int .i64 o] 24)).heap.size]? = some (.cells #[.string s] 72 (0, 0)) := heap_alloc_new _ _
  have hz : (w.alloc (.cells #[.int .i64 k, .int .i64 i, .int .i64 o] 24)).heap.size = w.heap.size + 1 := by
    rw [show (w.alloc (.cells #[.int .i64 k, .int .i64 i, .int .i64 o] 24)).heap = w.heap.push _ from rfl, Array.size_push]
  rw [hz] at hb
  exact ⟨h2, (Array.getElem?_eq_some_iff.1 hb).1, Go.Joins.cell_of_block hb 0⟩
theorem Env.below {w W W' : World} {s : ByteArray} {k i o : Int} (h : Env w W s k i o) (hb : Below W.heap.size W W') : Env w W' s k i o :=
  ⟨h.1.below hb, Nat.lt_of_lt_of_le h.2.1 hb.size, by rw [hb.cell h.2.1]; exact h.2.2⟩
theorem Env.drew {w W : World} {s : ByteArray} {k i o : Int} (h : Env w W s k i o) : Env w W.drew s k i o := h.below ((Below.refl _ _).drew)
section
variable {s : ByteArray} {w : World} {wb pb cb : Bool} {x k i o : Int}
def Sort38 (w : World) (s : ByteArray) (k i o : Int) (f : FuncId) (b : Bool) : Prop := ∀ W, Env w W s k i o → Calls Tryd.prog f #[.agg #[.string s]] W fun e w' => e = .returned (.bool b) ∧ Env w w' s k i o
theorem Of_none (HW : Hid (Sort38 w s k i o 38 false)) (HP : Hid (Sort38 w s k i o 39 false)) : Calls Tryd.prog 8 #[.string s, vT k i o] w fun e w' => e = .returned (.bool false) ∧ Below w.heap.size w w' := by
  unfold vT
  have h0 := Env.new w s k i o
  go_enter Tryd.func8, Tryd.ntmps8
  go_wp2_with (first
    | (go_at_call 38; refine (HW.out _ h0).mono ?_; rintro e w1 ⟨rfl, h1⟩; have c1 := h1.2.2)
    | (go_at_call 39; refine (HP.out _ h1).mono ?_; rintro e w2 ⟨rfl, h2⟩))
  go_ret
  exact ⟨rfl, h2.1.1⟩
set_option maxHeartbeats 1600000 in
theorem Of_zero (hwp : wb = true ∨ pb = true) (HW : Hid (Sort38 w s 0 i o 38 wb)) (HP : Hid (Sort38 w s 0 i o 39 pb)) (HC : Hid (Sort38 w s 0 i o 41 cb)) : Calls Tryd.prog 8 #[.string s, vT 0 i o] w fun e w' => e = .returned (.bool (decide (i = 0) && decide (o = 0))) ∧ Below w.heap.size w w' := by
  unfold vT
  have h0 := Env.new w s 0 i o
  have hwp2 : (wb || pb) = true := by rcases hwp with rfl | rfl <;> simp
  clear hwp
  cases wb <;> cases pb <;> first | (exact absurd hwp2 (by decide)) | (
    go_enter Tryd.func8, Tryd.ntmps8
    go_wp2_with (first
      | (go_at_call 38; refine (HW.out _ (by assumption)).mono ?_; rintro e w1 ⟨rfl, h1⟩; obtain ⟨c0, c1, c2, -, -, -⟩ := h1.1.cells; have c3 := h1.2.2)
      | (go_at_call 39; refine (HP.out _ (by assumption)).mono ?_; rintro e w2 ⟨rfl, h2⟩; obtain ⟨d0, d1, d2, -, -, -⟩ := h2.1.cells; have d3 := h2.2.2)
      | (go_at_call 41; refine (HC.out _ (by assumption)).mono ?_; rintro e w3 ⟨rfl, h3⟩; obtain ⟨e0, e1, e2, -, -, -⟩ := h3.1.cells; have e3 := h3.2.2))
    all_goals
      go_ret
      exact ⟨ret_bool (by simp [*]), (by first | exact h3.1.1 | exact h2.1.1 | exact h1.1.1)⟩)
end
end Go.Proofs.YtejhphnlickjlaaDoor.ty
namespace Go.Proofs.YtejhphnlickjlaaDoor.ty
open Go.ChangeShapes Go.WideShapes Go.RowKit
open M T W
set_option linter.unusedVariables false
theorem eq0_cases (i : Int) : (i = 0 ∧ (i == 0) = true) ∨ (¬ i = 0 ∧ (i == 0) = false) := by
  by_cases h : i = 0
  · exact .inl ⟨h, by rw [beq_iff_eq]; exact h⟩
  · exact .inr ⟨h, by rw [beq_eq_false_iff_ne]; exact h⟩
section
variable {s : ByteArray} {w : World} {wb pb cb : Bool} {x i o : Int}
set_option maxHeartbeats 3200000 in
theorem Of_null (hwp : wb = true ∨ pb = true) (HW : Hid (Sort38 w s 3 i o 38 wb)) (HP : Hid (Sort38 w s 3 i o 39 pb)) (HC : Hid (Sort38 w s 3 i o 41 cb)) : Calls Tryd.prog 8 #[.string s, vT 3 i o] w fun e w' => e = .returned (.bool (pb && decide (i = 0) && decide (o = 0))) ∧ Below w.heap.size w w' := by
  unfold vT
  have h0 := Env.new w s 3 i o
  have hwp2 : (wb || pb) = true := by rcases hwp with rfl | rfl <;> simp
  clear hwp
  rcases eq0_cases i with ⟨rfl, -⟩ | ⟨hi, bi⟩
  all_goals rcases eq0_cases o with ⟨rfl, -⟩ | ⟨ho, bo⟩
  all_goals
    cases wb <;> cases pb <;> cases cb
    all_goals (try (exact absurd hwp2 (by decide)))
    all_goals
      clear hwp2
      go_enter Tryd.func8, Tryd.ntmps8
      go_wp2_with (first
        | (go_at_call 38; refine (HW.out _ (by assumption)).mono ?_; rintro e w1 ⟨rfl, h1⟩; obtain ⟨c0, c1, c2, -, -, -⟩ := h1.1.cells; have c3 := h1.2.2)
        | (go_at_call 39; refine (HP.out _ (by assumption)).mono ?_; rintro e w2 ⟨rfl, h2⟩; obtain ⟨d0, d1, d2, -, -, -⟩ := h2.1.cells; have d3 := h2.2.2)
        | (go_at_call 41; refine (HC.out _ (by assumption)).mono ?_; rintro e w4 ⟨rfl, h4⟩; obtain ⟨e0, e1, e2, -, -, -⟩ := h4.1.cells; have e3 := h4.2.2))
      all_goals
        go_ret
        exact ⟨ret_bool (by simp [*]), (by first | exact h4.1.1 | exact h2.1.1 | exact h1.1.1)⟩
set_option maxHeartbeats 3200000 in
theorem Of_ptr (hwp : wb = true ∨ pb = true) (HW : Hid (Sort38 w s 2 i o 38 wb)) (HP : Hid (Sort38 w s 2 i o 39 pb)) (HC : Hid (Sort38 w s 2 i o 41 cb)) : Calls Tryd.prog 8 #[.string s, vT 2 i o] w fun e w' => e = .returned (.bool (pb && !cb && decide (0 ≤ i) && decide (0 ≤ o))) ∧ Below w.heap.size w w' := by
  unfold vT
  have h0 := Env.new w s 2 i o
  have hwp2 : (wb || pb) = true := by rcases hwp with rfl | rfl <;> simp
  clear hwp
  by_cases hi : 0 ≤ i
  all_goals by_cases ho : 0 ≤ o
  all_goals
    cases wb <;> cases pb <;> cases cb
    all_goals (try (exact absurd hwp2 (by decide)))
    all_goals
      clear hwp2
      go_enter Tryd.func8, Tryd.ntmps8
      go_wp2_with (first
        | (go_at_call 38; refine (HW.out _ (by assumption)).mono ?_; rintro e w1 ⟨rfl, h1⟩; obtain ⟨c0, c1, c2, -, -, -⟩ := h1.1.cells; have c3 := h1.2.2)
        | (go_at_call 39; refine (HP.out _ (by assumption)).mono ?_; rintro e w2 ⟨rfl, h2⟩; obtain ⟨d0, d1, d2, -, -, -⟩ := h2.1.cells; have d3 := h2.2.2)
        | (go_at_call 41; refine (HC.out _ (by assumption)).mono ?_; rintro e w4 ⟨rfl, h4⟩; obtain ⟨e0, e1, e2, -, -, -⟩ := h4.1.cells; have e3 := h4.2.2))
      all_goals
        go_ret
        exact ⟨ret_bool (by simp [*]), (by first | exact h4.1.1 | exact h2.1.1 | exact h1.1.1)⟩
set_option maxHeartbeats 3200000 in
theorem Of_func (hwp : wb = true ∨ pb = true) (HW : Hid (Sort38 w s 4 i o 38 wb)) (HP : Hid (Sort38 w s 4 i o 39 pb)) (HC : Hid (Sort38 w s 4 i o 41 cb)) : Calls Tryd.prog 8 #[.string s, vT 4 i o] w fun e w' => e = .returned (.bool (cb && decide (0 ≤ i) && decide (o = 0))) ∧ Below w.heap.size w w' := by
  unfold vT
  have h0 := Env.new w s 4 i o
  have hwp2 : (wb || pb) = true := by rcases hwp with rfl | rfl <;> simp
  clear hwp
  by_cases hi : 0 ≤ i
  all_goals rcases eq0_cases o with ⟨rfl, -⟩ | ⟨ho, bo⟩
  all_goals
    cases wb <;> cases pb <;> cases cb
    all_goals (try (exact absurd hwp2 (by decide)))
    all_goals
      clear hwp2
      go_enter Tryd.func8, Tryd.ntmps8
      go_wp2_with (first
        | (go_at_call 38; refine (HW.out _ (by assumption)).mono ?_; rintro e w1 ⟨rfl, h1⟩; obtain ⟨c0, c1, c2, -, -, -⟩ := h1.1.cells; have c3 := h1.2.2)
        | (go_at_call 39; refine (HP.out _ (by assumption)).mono ?_; rintro e w2 ⟨rfl, h2⟩; obtain ⟨d0, d1, d2, -, -, -⟩ := h2.1.cells; have d3 := h2.2.2)
        | (go_at_call 41; refine (HC.out _ (by assumption)).mono ?_; rintro e w4 ⟨rfl, h4⟩; obtain ⟨e0, e1, e2, -, -, -⟩ := h4.1.cells; have e3 := h4.2.2))
      all_goals
        go_ret
        exact ⟨ret_bool (by simp [*]), (by first | exact h4.1.1 | exact h2.1.1 | exact h1.1.1)⟩
end
end Go.Proofs.YtejhphnlickjlaaDoor.ty
