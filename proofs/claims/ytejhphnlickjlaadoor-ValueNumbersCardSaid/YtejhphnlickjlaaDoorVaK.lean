/-
  The contract of Of of package value, whole. Condition: the table of keywords stands in memory.
-/
import Derived.Test.YtejhphnlickjlaaDoorVaH
import Derived.Test.YtejhphnlickjlaaDoorVaJ
namespace Go.Proofs.YtejhphnlickjlaaDoor.ty
open Go.ChangeShapes Go.WideShapes Go.RowKit
open M T W
set_option linter.unusedVariables false
theorem of_ret {a b : Bool} {w : World} (h : a = b) {e : Ending} {w' : World} (hh : e = .returned (.bool a) ∧ Below w.heap.size w w') : e = .returned (.bool b) ∧ Below w.heap.size w w' := by rw [← h]; exact hh
theorem Of_any (s : ByteArray) (k i o : Int) (w : World) (hK : KeysIn w) (hs : s.size ≤ maxLen) : Calls Tryd.prog 8 #[.string s, vT k i o] w fun e w' => e = .returned (.bool (ofT (nums s) k i o)) ∧ Below w.heap.size w w' := by
  have HW : ∀ k i o, Hid (Sort38 w s k i o 38 (decide (bitsT (nums s) ≠ 0))) := fun k i o => Lib.hid (fun W h => (whole_any s W).mono fun e w' ⟨a, b⟩ => ⟨a, h.below b⟩)
  have HP : ∀ k i o, Hid (Sort38 w s k i o 39 (ptrT (nums s))) := fun k i o => Lib.hid (fun W h => (pointer_any s W (hK.below h.1.1) hs).mono fun e w' ⟨a, b⟩ => ⟨a, h.below b⟩)
  have HC : ∀ k i o, Hid (Sort38 w s k i o 41 (codeT (nums s))) := fun k i o => Lib.hid (fun W h => (code_any s W (hK.below h.1.1) hs).mono fun e w' ⟨a, b⟩ => ⟨a, h.below b⟩)
  by_cases hn : (decide (bitsT (nums s) ≠ 0) || ptrT (nums s)) = true
  · have hwp : decide (bitsT (nums s) ≠ 0) = true ∨ ptrT (nums s) = true := by rwa [Bool.or_eq_true] at hn
    by_cases e0 : k = 0
    · subst e0
      refine (Of_zero hwp (HW 0 i o) (HP 0 i o) (HC 0 i o)).mono fun e w' hh => of_ret ?_ hh
      unfold ofT; rw [hn, Bool.true_and, if_pos rfl, Bool.decide_and]
    · by_cases e1 : k = 1
      · subst e1
        by_cases hb : bitsT (nums s) = 0
        · have hp : ptrT (nums s) = true := hwp.resolve_left (by simp [hb])
          have h1 := HW 1 i o
          have h2 := HP 1 i o
          rw [decide_eq_false (fun h => h hb)] at h1
          rw [hp] at h2
          refine (Of_int_not h1 h2).mono fun e w' hh => of_ret ?_ hh
          unfold ofT numB; rw [hn, Bool.true_and, if_neg (by decide), if_pos rfl]; simp [hb]
        · have h1 := HW 1 i o
          rw [decide_eq_true hb] at h1
          by_cases ho : o = 0
          · subst ho
            refine (Of_int_whole (x := wrapT (nums s) i) h1 (Lib.hid (fun W => wrap_any s i W hb))).mono fun e w' hh => of_ret ?_ hh
            unfold ofT numB; rw [hn, Bool.true_and, if_neg (by decide), if_pos rfl, Bool.eq_iff_iff, beq_iff_eq, decide_eq_true_iff]
            exact ⟨fun h => ⟨hb, rfl, h⟩, fun h => h.2.2⟩
          · refine (Of_int_off ho h1).mono fun e w' hh => of_ret ?_ hh
            unfold ofT numB; rw [hn, Bool.true_and, if_neg (by decide), if_pos rfl]; simp [ho]
      · by_cases e3 : k = 3
        · subst e3
          refine (Of_null hwp (HW 3 i o) (HP 3 i o) (HC 3 i o)).mono fun e w' hh => of_ret ?_ hh
          unfold ofT; rw [hn, Bool.true_and, if_neg (by decide), if_neg (by decide), if_pos rfl, Bool.decide_and, Bool.and_assoc]
        · by_cases e2 : k = 2
          · subst e2
            refine (Of_ptr hwp (HW 2 i o) (HP 2 i o) (HC 2 i o)).mono fun e w' hh => of_ret ?_ hh
            unfold ofT; rw [hn, Bool.true_and, if_neg (by decide), if_neg (by decide), if_neg (by decide), if_pos rfl, Bool.decide_and, Bool.and_assoc (ptrT (nums s) && !codeT (nums s))]
          · by_cases e4 : k = 4
            · subst e4
              refine (Of_func hwp (HW 4 i o) (HP 4 i o) (HC 4 i o)).mono fun e w' hh => of_ret ?_ hh
              unfold ofT; rw [hn, Bool.true_and, if_neg (by decide), if_neg (by decide), if_neg (by decide), if_neg (by decide), if_pos rfl, Bool.decide_and, Bool.and_assoc]
            · refine (Of_else hwp e0 e1 e2 e3 e4 (HW k i o) (HP k i o)).mono fun e w' hh => of_ret ?_ hh
              unfold ofT; rw [if_neg e0, if_neg e1, if_neg e3, if_neg e2, if_neg e4, Bool.and_false]
  · have hn' : (decide (bitsT (nums s) ≠ 0) || ptrT (nums s)) = false := by simpa using hn
    have h1 := HW k i o
    have h2 := HP k i o
    rw [Bool.or_eq_false_iff] at hn'
    rw [hn'.1] at h1
    rw [hn'.2] at h2
    refine (Of_none h1 h2).mono fun e w' hh => of_ret ?_ hh
    unfold ofT; rw [hn'.1, hn'.2, Bool.or_false, Bool.false_and]
end Go.Proofs.YtejhphnlickjlaaDoor.ty
