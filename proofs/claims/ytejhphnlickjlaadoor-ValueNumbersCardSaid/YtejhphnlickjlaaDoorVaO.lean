/-
  The contract of Of of the reference, whole. Condition: lengths.
-/
import Derived.Test.YtejhphnlickjlaaDoorVaN
namespace Go.Proofs.YtejhphnlickjlaaDoor.ty
open Go.ChangeShapes Go.WideShapes Go.RowKit
open M T W
set_option linter.unusedVariables false
section
variable {s : ByteArray} {w : World} {pb cb : Bool} {m : Nat} {x k i o lo hi : Int}
set_option maxHeartbeats 1600000 in
theorem Of2_none (HP : Hid (Ptr2 w s k i o false cb)) (HB : Hid (∀ W, Calls Tryd.prog 43 #[.string s] W fun e w' => e = .returned (.int .i64 (0 : Nat)) ∧ w' = W)) : Calls Tryd.prog 9 #[.string s, vT k i o] w fun e w' => e = .returned (.bool false) ∧ Below w.heap.size w w' := by
  unfold vT
  have h0 : Own w (w.alloc (.cells #[.int .i64 k, .int .i64 i, .int .i64 o] 24)) k i o := ⟨(Below.refl _ _).alloc (Nat.le_refl _) _, heap_alloc_new w _⟩
  go_enter Tryd.func9, Tryd.ntmps9
  go_wp2_with (first
    | (go_at_call 42; refine (HP.out _ (by assumption)).mono ?_; rintro e w1 ⟨rfl, h1⟩; obtain ⟨c0, c1, c2, -, -, -⟩ := h1.cells)
    | (go_at_call 43; refine (HB.out _).mono ?_; rintro e w2 ⟨rfl, rfl⟩))
  go_ret
  exact ⟨rfl, h1.1⟩
set_option maxHeartbeats 1600000 in
theorem Of2_else (hwp : m ≠ 0 ∨ pb = true) (k0 : k ≠ 0) (k1 : k ≠ 1) (k2 : k ≠ 2) (k3 : k ≠ 3) (k4 : k ≠ 4) (HP : Hid (Ptr2 w s k i o pb cb)) (HB : Hid (∀ W, Calls Tryd.prog 43 #[.string s] W fun e w' => e = .returned (.int .i64 (m : Nat)) ∧ w' = W)) : Calls Tryd.prog 9 #[.string s, vT k i o] w fun e w' => e = .returned (.bool false) ∧ Below w.heap.size w w' := by
  unfold vT
  have h0 : Own w (w.alloc (.cells #[.int .i64 k, .int .i64 i, .int .i64 o] 24)) k i o := ⟨(Below.refl _ _).alloc (Nat.le_refl _) _, heap_alloc_new w _⟩
  have hm : ((m : Int) == 0) = decide (m = 0) := by rw [Bool.eq_iff_iff, beq_iff_eq, decide_eq_true_iff]; omega
  have hwp2 : (!decide (m = 0) || pb) = true := by rcases hwp with h | rfl <;> simp [*]
  have b0 : (k == 0) = false := by rw [beq_eq_false_iff_ne]; exact k0
  have b1 : (k == 1) = false := by rw [beq_eq_false_iff_ne]; exact k1
  have b2 : (k == 2) = false := by rw [beq_eq_false_iff_ne]; exact k2
  have b3 : (k == 3) = false := by rw [beq_eq_false_iff_ne]; exact k3
  have b4 : (k == 4) = false := by rw [beq_eq_false_iff_ne]; exact k4
  clear hwp k0 k1 k2 k3 k4
  generalize decide (m = 0) = mb at hm hwp2
  cases mb <;> cases pb
  all_goals (try (exact absurd hwp2 (by decide)))
  all_goals
    clear hwp2
    go_enter Tryd.func9, Tryd.ntmps9
    go_wp2_with (first
      | (go_at_call 42; refine (HP.out _ (by assumption)).mono ?_; rintro e w1 ⟨rfl, h1⟩; obtain ⟨c0, c1, c2, -, -, -⟩ := h1.cells)
      | (go_at_call 43; refine (HB.out _).mono ?_; rintro e w2 ⟨rfl, rfl⟩))
    all_goals
      go_ret
      exact ⟨rfl, h1.1⟩
set_option maxHeartbeats 3200000 in
theorem Of2_int_no (hp : pb = true) (HP : Hid (Ptr2 w s 1 i o pb cb)) (HB : Hid (∀ W, Calls Tryd.prog 43 #[.string s] W fun e w' => e = .returned (.int .i64 (0 : Nat)) ∧ w' = W)) : Calls Tryd.prog 9 #[.string s, vT 1 i o] w fun e w' => e = .returned (.bool false) ∧ Below w.heap.size w w' := by
  unfold vT
  have h0 : Own w (w.alloc (.cells #[.int .i64 1, .int .i64 i, .int .i64 o] 24)) 1 i o := ⟨(Below.refl _ _).alloc (Nat.le_refl _) _, heap_alloc_new w _⟩
  subst hp
  go_enter Tryd.func9, Tryd.ntmps9
  go_wp2_with (first
    | (go_at_call 42; refine (HP.out _ (by assumption)).mono ?_; rintro e w1 ⟨rfl, h1⟩; obtain ⟨c0, c1, c2, -, -, -⟩ := h1.cells)
    | (go_at_call 43; refine (HB.out _).mono ?_; rintro e w2 ⟨rfl, rfl⟩))
  go_ret
  exact ⟨rfl, h1.1⟩
set_option maxHeartbeats 3200000 in
theorem Of2_int (hm0 : m ≠ 0) (HP : Hid (Ptr2 w s 1 i o pb cb)) (HB : Hid (∀ W, Calls Tryd.prog 43 #[.string s] W fun e w' => e = .returned (.int .i64 (m : Nat)) ∧ w' = W)) (HD : Hid (∀ W, Calls Tryd.prog 44 #[.string s] W fun e w' => e = .returned (.tuple #[.int .i64 lo, .int .i64 hi]) ∧ w' = W)) : Calls Tryd.prog 9 #[.string s, vT 1 i o] w fun e w' => e = .returned (.bool (decide (o = 0) && decide (lo ≤ i) && decide (i ≤ hi))) ∧ Below w.heap.size w w' := by
  unfold vT
  have h0 : Own w (w.alloc (.cells #[.int .i64 1, .int .i64 i, .int .i64 o] 24)) 1 i o := ⟨(Below.refl _ _).alloc (Nat.le_refl _) _, heap_alloc_new w _⟩
  have hm : ((m : Int) == 0) = false := by rw [beq_eq_false_iff_ne]; omega
  clear hm0
  rcases eq0_cases o with ⟨rfl, -⟩ | ⟨ho, bo⟩
  all_goals by_cases g1 : lo ≤ i
  all_goals by_cases g2 : i ≤ hi
  all_goals
    go_enter Tryd.func9, Tryd.ntmps9
    go_wp2_with (first
      | (go_at_call 42; refine (HP.out _ (by assumption)).mono ?_; rintro e w1 ⟨rfl, h1⟩; obtain ⟨c0, c1, c2, -, -, -⟩ := h1.cells)
      | (go_at_call 43; refine (HB.out _).mono ?_; rintro e w2 ⟨rfl, rfl⟩)
      | (go_at_call 44; refine (HD.out _).mono ?_; rintro e w3 ⟨rfl, rfl⟩))
    all_goals
      go_ret
      exact ⟨ret_bool (by simp [*]), h1.1⟩
end
theorem Of2_any (s : ByteArray) (k i o : Int) (w : World) (hs : s.size ≤ maxLen) : Calls Tryd.prog 9 #[.string s, vT k i o] w fun e w' => e = .returned (.bool (ofT (nums s) k i o)) ∧ Below w.heap.size w w' := by
  have HB : Hid (∀ W, Calls Tryd.prog 43 #[.string s] W fun e w' => e = .returned (.int .i64 (bitsT (nums s) : Nat)) ∧ w' = W) := Lib.hid (bits43_any s)
  have HP : ∀ k i o, Hid (Ptr2 w s k i o (ptrT (nums s)) (codeT (nums s))) := fun k i o => Lib.hid (fun W h => (pointer2_any s W hs).mono fun e w' ⟨a, b⟩ => ⟨a, h.below b⟩)
  by_cases hn : (decide (bitsT (nums s) ≠ 0) || ptrT (nums s)) = true
  · have hwp : bitsT (nums s) ≠ 0 ∨ ptrT (nums s) = true := by rw [Bool.or_eq_true] at hn; exact hn.imp of_decide_eq_true id
    by_cases e0 : k = 0
    · subst e0
      refine (Of2_zero hwp (HP 0 i o) HB).mono fun e w' hh => of_ret ?_ hh
      unfold ofT; rw [hn, Bool.true_and, if_pos rfl, Bool.decide_and]
    · by_cases e1 : k = 1
      · subst e1
        by_cases hb : bitsT (nums s) = 0
        · have hp : ptrT (nums s) = true := hwp.resolve_left (by simp [hb])
          rw [hb] at HB
          refine (Of2_int_no hp (HP 1 i o) HB).mono fun e w' hh => of_ret ?_ hh
          unfold ofT numB; rw [hn, Bool.true_and, if_neg (by decide), if_pos rfl]; simp [hb]
        · have HD : Hid (∀ W, Calls Tryd.prog 44 #[.string s] W fun e w' => e = .returned (.tuple #[.int .i64 (lowT (nums s)), .int .i64 (topT (nums s))]) ∧ w' = W) := Lib.hid (fun W => bound_any s W hb)
          refine (Of2_int hb (HP 1 i o) HB HD).mono fun e w' hh => of_ret ?_ hh
          unfold ofT numB; rw [hn, Bool.true_and, if_neg (by decide), if_pos rfl, Bool.eq_iff_iff]
          simp only [Bool.and_eq_true, decide_eq_true_iff, wrap_fix hb, and_assoc]
          exact ⟨fun h => ⟨hb, h⟩, fun h => h.2⟩
      · by_cases e3 : k = 3
        · subst e3
          refine (Of2_null hwp (HP 3 i o) HB).mono fun e w' hh => of_ret ?_ hh
          unfold ofT; rw [hn, Bool.true_and, if_neg (by decide), if_neg (by decide), if_pos rfl, Bool.decide_and, Bool.and_assoc]
        · by_cases e2 : k = 2
          · subst e2
            refine (Of2_ptr hwp (HP 2 i o) HB).mono fun e w' hh => of_ret ?_ hh
            unfold ofT; rw [hn, Bool.true_and, if_neg (by decide), if_neg (by decide), if_neg (by decide), if_pos rfl, Bool.decide_and, Bool.and_assoc (ptrT (nums s) && !codeT (nums s))]
          · by_cases e4 : k = 4
            · subst e4
              refine (Of2_func hwp (HP 4 i o) HB).mono fun e w' hh => of_ret ?_ hh
              unfold ofT; rw [hn, Bool.true_and, if_neg (by decide), if_neg (by decide), if_neg (by decide), if_neg (by decide), if_pos rfl, Bool.decide_and, Bool.and_assoc]
            · refine (Of2_else hwp e0 e1 e2 e3 e4 (HP k i o) HB).mono fun e w' hh => of_ret ?_ hh
              unfold ofT; rw [if_neg e0, if_neg e1, if_neg e3, if_neg e2, if_neg e4, Bool.and_false]
  · have hn' : (decide (bitsT (nums s) ≠ 0) || ptrT (nums s)) = false := by simpa using hn
    have h2 := HP k i o
    rw [Bool.or_eq_false_iff] at hn'
    have hb : bitsT (nums s) = 0 := by simpa using hn'.1
    rw [hb] at HB
    rw [hn'.2] at h2
    refine (Of2_none h2 HB).mono fun e w' hh => of_ret ?_ hh
    unfold ofT; rw [hn'.1, hn'.2, Bool.or_false, Bool.false_and]
end Go.Proofs.YtejhphnlickjlaaDoor.ty
