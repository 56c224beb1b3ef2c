/-
  Contracts of Int and bound of the reference. No condition beyond the ranges of numbers.
-/
import Derived.Test.YtejhphnlickjlaaDoorVaE
namespace Go.Proofs.YtejhphnlickjlaaDoor.ty
open Go.ChangeShapes Go.WideShapes Go.RowKit
open M T W
set_option linter.unusedVariables false
set_option maxHeartbeats 400000 in
theorem Int2_any (s : ByteArray) (n : Int) (w : World) : Calls Tryd.prog 11 #[.string s, .int .i64 n] w fun e w' => e = .returned (intV (nums s) n) ∧ Below w.heap.size w w' := by
  unfold intV vT
  have HB := Lib.hid (bits43_any s)
  by_cases hb : bitsT (nums s) = 0
  · rw [if_pos hb]
    rw [hb] at HB
    clear hb
    go_enter Tryd.func11, Tryd.ntmps11
    go_wp2_with (go_at_call 43; refine (HB.out _).mono ?_; rintro e w2 ⟨rfl, rfl⟩)
    try simp only [Exit.inBlock, Exit.then]
    refine bodyPost_ret (v := .tuple #[.agg #[.int .i64 0, .int .i64 0, .int .i64 0], .int .i64 5]) (by rw [results_cell_tmp rfl]; go_simp) rfl ?_
    exact ⟨rfl, (Below.refl _ _).alloc (Nat.le_refl _) _⟩
  · rw [if_neg hb]
    have HN := Lib.hid (fun W => number2_of s n W hb)
    unfold vT at HN
    have HO := Lib.hid (Own.new w)
    have hm : ((bitsT (nums s) : Int) == 0) = false := by rw [beq_eq_false_iff_ne]; omega
    clear hb
    generalize bitsT (nums s) = m at *
    generalize wrapT (nums s) n = x at *
    go_enter Tryd.func11, Tryd.ntmps11
    go_wp2_with (first
      | (go_at_call 43; refine (HB.out _).mono ?_; rintro e w2 ⟨rfl, rfl⟩)
      | (go_at_call 47; refine (HN.out _).mono ?_; rintro e w4 ⟨rfl, h4⟩; have h5 := HO.out.below h4; have H5 := Lib.hid h5; obtain ⟨c0, c1, c2, f0, f1, f2⟩ := h5.cells; clear h5 h4))
    try simp only [Exit.inBlock, Exit.then]
    refine bodyPost_ret (v := .tuple #[.agg #[.int .i64 1, .int .i64 x, .int .i64 0], .int .i64 0]) (by rw [results_cell_tmp rfl]; go_simp) rfl ?_
    exact ⟨rfl, ((H5.out.1.setCell (Nat.le_refl _) _).setCell (Nat.le_refl _) _).setCell (Nat.le_refl _) _⟩
theorem bound_any (s : ByteArray) (w : World) (hb : bitsT (nums s) ≠ 0) : Calls Tryd.prog 44 #[.string s] w fun e w' => e = .returned (.tuple #[.int .i64 (lowT (nums s)), .int .i64 (topT (nums s))]) ∧ w' = w := by
  have a4 := toList_one s 117 117 rfl
  have HB := Lib.hid (bits43_any s)
  rcases bits_one hb with h | h | h | h
  · rw [decide_eq_false (by rw [h]; decide)] at a4
    rw [show bitsT (nums s) = 8 from by rw [h]; rfl] at HB
    rw [show lowT (nums s) = -128 from by rw [h]; rfl, show topT (nums s) = 127 from by rw [h]; rfl]
    clear h hb
    go_enter Tryd.func44, Tryd.ntmps44
    go_wp2_with (go_at_call 43; refine (HB.out _).mono ?_; rintro e w2 ⟨rfl, rfl⟩)
    go_ret2
    exact ⟨rfl, rfl⟩
  · rw [decide_eq_false (by rw [h]; decide)] at a4
    rw [show bitsT (nums s) = 16 from by rw [h]; rfl] at HB
    rw [show lowT (nums s) = -32768 from by rw [h]; rfl, show topT (nums s) = 32767 from by rw [h]; rfl]
    clear h hb
    go_enter Tryd.func44, Tryd.ntmps44
    go_wp2_with (go_at_call 43; refine (HB.out _).mono ?_; rintro e w2 ⟨rfl, rfl⟩)
    go_ret2
    exact ⟨rfl, rfl⟩
  · rw [decide_eq_false (by rw [h]; decide)] at a4
    rw [show bitsT (nums s) = 32 from by rw [h]; rfl] at HB
    rw [show lowT (nums s) = -2147483648 from by rw [h]; rfl, show topT (nums s) = 2147483647 from by rw [h]; rfl]
    clear h hb
    go_enter Tryd.func44, Tryd.ntmps44
    go_wp2_with (go_at_call 43; refine (HB.out _).mono ?_; rintro e w2 ⟨rfl, rfl⟩)
    go_ret2
    exact ⟨rfl, rfl⟩
  · rw [decide_eq_true h] at a4
    rw [show lowT (nums s) = 0 from by rw [h]; rfl, show topT (nums s) = 4294967295 from by rw [h]; rfl]
    clear h hb HB
    go_enter Tryd.func44, Tryd.ntmps44
    go_wp2_with fail
    go_ret2
    exact ⟨rfl, rfl⟩
end Go.Proofs.YtejhphnlickjlaaDoor.ty
