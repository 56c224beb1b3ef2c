/-
  Contracts of looked of package value and of look of the reference, at one value. Condition: the table of keywords stands in memory.
-/
import Derived.Test.YtejhphnlickjlaaDoorVaO
import Derived.Handy
namespace Go.Proofs.YtejhphnlickjlaaDoor.ty
open Go.ChangeShapes Go.WideShapes Go.RowKit
open M T W
set_option linter.unusedVariables false
/-- what a look at one value answers -/
noncomputable def lookV (l : List Int) (k i o : Int) : Int := if ofT l k i o = true then (if k = 0 then 150 else 0) else 5
/-- one value in a row of its own -/
def Row1 (w : World) (g : Nat) (k i o : Int) : Prop := w.heap[g]? = some (.cells #[.int .i64 k, .int .i64 i, .int .i64 o] 24 (0, 0))
theorem Row1.below {w w' : World} {g : Nat} {k i o : Int} (h : Row1 w g k i o) (hb : Below w.heap.size w w') : Row1 w' g k i o := (hb.block _ (Array.getElem?_eq_some_iff.1 h).1).trans h
theorem Row1.lt {w : World} {g : Nat} {k i o : Int} (h : Row1 w g k i o) : g < w.heap.size := (Array.getElem?_eq_some_iff.1 h).1
theorem Row1.cells {w : World} {g : Nat} {k i o : Int} (h : Row1 w g k i o) : w.cell? ⟨g, 0, none⟩ = some (.int .i64 k) ∧ w.cell? ⟨g, 1, none⟩ = some (.int .i64 i) ∧ w.cell? ⟨g, 2, none⟩ = some (.int .i64 o) :=
  ⟨Go.Joins.cell_of_block h 0, Go.Joins.cell_of_block h 1, Go.Joins.cell_of_block h 2⟩
theorem Row1.alloc {w : World} {g : Nat} {k i o : Int} (h : Row1 w g k i o) (b : Obj) : Row1 (w.alloc b) g k i o := h.below ((Below.refl _ _).alloc (Nat.le_refl _) _)
section
variable {s : ByteArray} {w : World} {g : Nat} {k i o : Int} {c : Nat}
set_option maxRecDepth 20000 in
set_option maxHeartbeats 1600000 in
theorem look49_of (HO : ∀ W, Calls Tryd.prog 9 #[.string s, vT k i o] W fun e w' => e = .returned (.bool (ofT (T.nums s) k i o)) ∧ Below W.heap.size W w') (h : Row1 w g k i o) :
    Calls Tryd.prog 49 #[.string s, .slice (some ⟨g, 0, none⟩) 1 c] w fun e w' => e = .returned (.int .i64 (lookV (T.nums s) k i o)) ∧ Below w.heap.size w w' := by
  unfold lookV
  have HH : ∀ W, Calls Tryd.prog 9 #[.string s, vT k i o] W fun e w' => e = .returned (.bool (ofT (T.nums s) k i o)) ∧ Below W.heap.size W w' := HO
  have HR := Lib.hid h
  obtain ⟨a0, a1, a2⟩ := h.cells
  clear h HO
  unfold vT at HH
  by_cases ho : ofT (T.nums s) k i o = true
  · rw [ho] at HH
    rw [ho, if_pos rfl]
    have HH := Lib.hid HH
    clear ho
    by_cases hk : k = 0
    · subst hk
      rw [if_pos rfl]
      go_enter Tryd.func49, Tryd.ntmps49
      go_wp2_with fail
      refine wp_loop_rounds 2 ?_
      repeat any_goals (rw [rounds_succ]; go_wp2_with (go_at_call 9; refine (HH.out _).mono ?_; rintro e w1 ⟨rfl, hb1⟩; have B1 := Lib.hid hb1; obtain ⟨b0, b1, b2⟩ := (HR.out.below hb1).cells; clear hb1))
      all_goals (try (refine wp_loop_rounds 2 ?_))
      repeat any_goals (rw [rounds_succ]; go_wp2_with fail)
      all_goals (go_ret; exact ⟨rfl, B1.out⟩)
    · rw [if_neg hk]
      have hk' : (k == 0) = false := by rw [beq_eq_false_iff_ne]; exact hk
      clear hk
      go_enter Tryd.func49, Tryd.ntmps49
      go_wp2_with fail
      refine wp_loop_rounds 2 ?_
      repeat any_goals (rw [rounds_succ]; go_wp2_with (go_at_call 9; refine (HH.out _).mono ?_; rintro e w1 ⟨rfl, hb1⟩; have B1 := Lib.hid hb1; obtain ⟨b0, b1, b2⟩ := (HR.out.below hb1).cells; clear hb1))
      all_goals (try (refine wp_loop_rounds 2 ?_))
      repeat any_goals (rw [rounds_succ]; go_wp2_with fail)
      all_goals (go_ret; exact ⟨rfl, B1.out⟩)
  · have ho' : ofT (T.nums s) k i o = false := by simpa using ho
    rw [ho'] at HH
    rw [if_neg ho]
    have HH := Lib.hid HH
    clear ho ho'
    go_enter Tryd.func49, Tryd.ntmps49
    go_wp2_with fail
    refine wp_loop_rounds 2 ?_
    repeat any_goals (rw [rounds_succ]; go_wp2_with (go_at_call 9; refine (HH.out _).mono ?_; rintro e w1 ⟨rfl, hb1⟩; have B1 := Lib.hid hb1; obtain ⟨b0, b1, b2⟩ := (HR.out.below hb1).cells; clear hb1))
    all_goals (try (refine wp_loop_rounds 2 ?_))
    repeat any_goals (rw [rounds_succ]; go_wp2_with fail)
    all_goals (go_ret; exact ⟨rfl, B1.out⟩)
set_option maxRecDepth 20000 in
set_option maxHeartbeats 1600000 in
theorem look48_of (hK : Hid (KeysIn w)) (HO : ∀ W, KeysIn W → Calls Tryd.prog 8 #[.string s, vT k i o] W fun e w' => e = .returned (.bool (ofT (T.nums s) k i o)) ∧ Below W.heap.size W w') (h : Row1 w g k i o) :
    Calls Tryd.prog 48 #[.string s, .slice (some ⟨g, 0, none⟩) 1 c] w fun e w' => e = .returned (.int .i64 (lookV (T.nums s) k i o)) ∧ Below w.heap.size w w' := by
  unfold lookV
  have HH : ∀ W, KeysIn W → Calls Tryd.prog 8 #[.string s, vT k i o] W fun e w' => e = .returned (.bool (ofT (T.nums s) k i o)) ∧ Below W.heap.size W w' := HO
  have HR := Lib.hid h
  obtain ⟨a0, a1, a2⟩ := h.cells
  clear h HO
  unfold vT at HH
  by_cases ho : ofT (T.nums s) k i o = true
  · rw [ho] at HH
    rw [ho, if_pos rfl]
    have HH := Lib.hid HH
    clear ho
    by_cases hk : k = 0
    · subst hk
      rw [if_pos rfl]
      go_enter Tryd.func48, Tryd.ntmps48
      go_wp2_with fail
      refine wp_loop_rounds 2 ?_
      repeat any_goals (rw [rounds_succ]; go_wp2_with (go_at_call 8; refine (HH.out _ (by first | exact hK.out.below ((Below.refl _ _).alloc (Nat.le_refl _) _) | exact hK.out)).mono ?_; rintro e w1 ⟨rfl, hb1⟩; have B1 := Lib.hid (((Below.refl w.heap.size w).alloc (Nat.le_refl _) _).trans (hb1.mono (by simp))); have R1 := Lib.hid ((HR.out.alloc _).below hb1); obtain ⟨b0, b1, b2⟩ := R1.out.cells; clear hb1))
      all_goals (try (refine wp_loop_rounds 2 ?_))
      repeat any_goals (rw [rounds_succ]; go_wp2_with fail)
      all_goals (go_ret; exact ⟨rfl, by first | exact B1.out | exact B1.out.alloc (B1.out.size) _⟩)
    · rw [if_neg hk]
      have hk' : (k == 0) = false := by rw [beq_eq_false_iff_ne]; exact hk
      clear hk
      go_enter Tryd.func48, Tryd.ntmps48
      go_wp2_with fail
      refine wp_loop_rounds 2 ?_
      repeat any_goals (rw [rounds_succ]; go_wp2_with (go_at_call 8; refine (HH.out _ (by first | exact hK.out.below ((Below.refl _ _).alloc (Nat.le_refl _) _) | exact hK.out)).mono ?_; rintro e w1 ⟨rfl, hb1⟩; have B1 := Lib.hid (((Below.refl w.heap.size w).alloc (Nat.le_refl _) _).trans (hb1.mono (by simp))); have R1 := Lib.hid ((HR.out.alloc _).below hb1); obtain ⟨b0, b1, b2⟩ := R1.out.cells; clear hb1))
      all_goals (try (refine wp_loop_rounds 2 ?_))
      repeat any_goals (rw [rounds_succ]; go_wp2_with fail)
      all_goals (go_ret; exact ⟨rfl, by first | exact B1.out | exact B1.out.alloc (B1.out.size) _⟩)
  · have ho' : ofT (T.nums s) k i o = false := by simpa using ho
    rw [ho'] at HH
    rw [if_neg ho]
    have HH := Lib.hid HH
    clear ho ho'
    go_enter Tryd.func48, Tryd.ntmps48
    go_wp2_with fail
    refine wp_loop_rounds 2 ?_
    repeat any_goals (rw [rounds_succ]; go_wp2_with (go_at_call 8; refine (HH.out _ (by first | exact hK.out.below ((Below.refl _ _).alloc (Nat.le_refl _) _) | exact hK.out)).mono ?_; rintro e w1 ⟨rfl, hb1⟩; have B1 := Lib.hid (((Below.refl w.heap.size w).alloc (Nat.le_refl _) _).trans (hb1.mono (by simp))); have R1 := Lib.hid ((HR.out.alloc _).below hb1); obtain ⟨b0, b1, b2⟩ := R1.out.cells; clear hb1))
    all_goals (try (refine wp_loop_rounds 2 ?_))
    repeat any_goals (rw [rounds_succ]; go_wp2_with fail)
    all_goals (go_ret; exact ⟨rfl, by first | exact B1.out | exact B1.out.alloc (B1.out.size) _⟩)
end
end Go.Proofs.YtejhphnlickjlaaDoor.ty
