/-
  Contracts of Int and bound of the reference. No condition beyond the ranges of numbers.
-/
import Derived.Test.YtejhphnlickjlaaDoorVaD
set_option linter.unusedVariables false
set_option linter.unusedSimpArgs false
namespace Go.Proofs.YtejhphnlickjlaaDoor.ty
open Go.ChangeShapes Go.WideShapes Go.RowKit
open M T W
set_option linter.unusedVariables false
theorem number2_of (s : ByteArray) (n : Int) (w : World) (hb : bitsT (nums s) ≠ 0) : Calls Tryd.prog 47 #[.string s, .int .i64 n] w fun e w' => e = .returned (vT 1 (wrapT (nums s) n) 0) ∧ Below w.heap.size w w' := by
  unfold vT
  have a4 := toList_one s 117 117 rfl
  have HO := Lib.hid (rof_any n)
  by_cases hu : nums s = [117]
  · rw [wrap_u hu]
    rw [decide_eq_true hu] at a4
    have q0 : 0 ≤ n % 4294967296 := by omega
    have q1 : n % 4294967296 < 4294967296 := by omega
    clear hu hb
    generalize n % 4294967296 = a at *
    go_enter Tryd.func47, Tryd.ntmps47
    go_wp2_with (go_at_call 54; refine (HO.out _).mono ?_; rintro e w1 ⟨rfl, rfl⟩)
    try simp only [Exit.inBlock, Exit.then]
    refine bodyPost_ret (v := .agg #[.int .i64 1, .int .i64 a, .int .i64 0]) (by rw [results_cell1 rfl]; go_simp) rfl ?_
    exact ⟨rfl, (Below.refl _ _).alloc (Nat.le_refl _) _⟩
  · rw [wrap_words hb hu]
    rw [decide_eq_false hu] at a4
    have q0 : 0 ≤ n % 4294967296 := by omega
    have q1 : n % 4294967296 < 4294967296 := by omega
    generalize n % 4294967296 = a at *
    obtain ⟨p1, p2⟩ := bits_bd _ hb
    obtain ⟨r0, r1⟩ := ext_bd a (bitsT (nums s) : Nat) q0 q1 p1 p2
    have HB := Lib.hid (bits43_any s)
    have HE := Lib.hid (fun W => rext_yes a (bitsT (nums s) : Nat) W q0 q1 p1 p2)
    have HS := Lib.hid (fun W => rsigned_word (ext a (bitsT (nums s) : Nat)) W r0 r1)
    clear hu hb
    generalize ext a (bitsT (nums s) : Nat) = x at *
    generalize bitsT (nums s) = m at *
    generalize hy : sgn x = y at *
    clear hy
    go_enter Tryd.func47, Tryd.ntmps47
    go_wp2_with (first
      | (go_at_call 54; refine (HO.out _).mono ?_; rintro e w1 ⟨rfl, rfl⟩)
      | (go_at_call 43; refine (HB.out _).mono ?_; rintro e w2 ⟨rfl, rfl⟩)
      | (go_at_call 77; refine (HE.out _).mono ?_; rintro e w3 ⟨rfl, rfl⟩)
      | (go_at_call 78; refine (HS.out _).mono ?_; rintro e w4 ⟨rfl, rfl⟩))
    try simp only [Exit.inBlock, Exit.then]
    refine bodyPost_ret (v := .agg #[.int .i64 1, .int .i64 y, .int .i64 0]) (by rw [results_cell1 rfl]; go_simp) rfl ?_
    exact ⟨rfl, (Below.refl _ _).alloc (Nat.le_refl _) _⟩
/-- what Int answers -/
def intV (l : List Int) (n : Int) : Value := if bitsT l = 0 then .tuple #[vT 0 0 0, .int .i64 5] else .tuple #[vT 1 (wrapT l n) 0, .int .i64 0]
/-- the result's own variable, laid first -/
def Own (w W : World) (k i o : Int) : Prop := Below w.heap.size w W ∧ W.heap[w.heap.size]? = some (.cells #[.int .i64 k, .int .i64 i, .int .i64 o] 24 (0, 0))
theorem Own.new (w : World) : Own w (w.alloc (.cells #[.int .i64 0, .int .i64 0, .int .i64 0] 24)) 0 0 0 := ⟨(Below.refl _ _).alloc (Nat.le_refl _) _, heap_alloc_new w _⟩
theorem Own.below {w W W' : World} {k i o : Int} (h : Own w W k i o) (hb : Below W.heap.size W W') : Own w W' k i o :=
  ⟨h.1.trans (hb.mono h.1.size), by rw [hb.block _ (Array.getElem?_eq_some_iff.1 h.2).1]; exact h.2⟩
theorem Own.cells {w W : World} {k i o : Int} (h : Own w W k i o) : W.cell? ⟨w.heap.size, 0, none⟩ = some (.int .i64 k) ∧ W.cell? ⟨w.heap.size, 1, none⟩ = some (.int .i64 i) ∧ W.cell? ⟨w.heap.size, 2, none⟩ = some (.int .i64 o) ∧
    W.frozen? ⟨w.heap.size, 0, none⟩ = false ∧ W.frozen? ⟨w.heap.size, 1, none⟩ = false ∧ W.frozen? ⟨w.heap.size, 2, none⟩ = false :=
  ⟨Go.Joins.cell_of_block h.2 0, Go.Joins.cell_of_block h.2 1, Go.Joins.cell_of_block h.2 2, Go.Joins.unfrozen_of_block h.2 0, Go.Joins.unfrozen_of_block h.2 1, Go.Joins.unfrozen_of_block h.2 2⟩
set_option maxHeartbeats 400000 in
theorem Int_any (s : ByteArray) (n : Int) (w : World) : Calls Tryd.prog 10 #[.string s, .int .i64 n] w fun e w' => e = .returned (intV (nums s) n) ∧ Below w.heap.size w w' := by
  unfold intV vT
  have HB := Lib.hid (bits45_any s)
  by_cases hb : bitsT (nums s) = 0
  · rw [if_pos hb]
    rw [hb] at HB
    clear hb
    go_enter Tryd.func10, Tryd.ntmps10
    go_wp2_with (go_at_call 45; refine (HB.out _).mono ?_; rintro e w2 ⟨rfl, rfl⟩)
    try simp only [Exit.inBlock, Exit.then]
    refine bodyPost_ret (v := .tuple #[.agg #[.int .i64 0, .int .i64 0, .int .i64 0], .int .i64 5]) (by rw [results_cell_tmp rfl]; go_simp) rfl ?_
    exact ⟨rfl, (Below.refl _ _).alloc (Nat.le_refl _) _⟩
  · rw [if_neg hb]
    have HW := Lib.hid (fun W => wrap_any s n W hb)
    have HN := Lib.hid (fun m W => number_of m W)
    unfold vT at HN
    have HO := Lib.hid (Own.new w)
    have hm : ((bitsT (nums s) : Int) == 0) = false := by rw [beq_eq_false_iff_ne]; omega
    clear hb
    generalize bitsT (nums s) = m at *
    generalize wrapT (nums s) n = x at *
    go_enter Tryd.func10, Tryd.ntmps10
    go_wp2_with (first
      | (go_at_call 45; refine (HB.out _).mono ?_; rintro e w2 ⟨rfl, rfl⟩)
      | (go_at_call 40; refine (HW.out _).mono ?_; rintro e w3 ⟨rfl, rfl⟩)
      | (go_at_call 46; refine (HN.out _ _).mono ?_; rintro e w4 ⟨rfl, h4⟩; have h5 := HO.out.below h4; have H5 := Lib.hid h5; obtain ⟨c0, c1, c2, f0, f1, f2⟩ := h5.cells; clear h5 h4))
    try simp only [Exit.inBlock, Exit.then]
    refine bodyPost_ret (v := .tuple #[.agg #[.int .i64 1, .int .i64 x, .int .i64 0], .int .i64 0]) (by rw [results_cell_tmp rfl]; go_simp) rfl ?_
    exact ⟨rfl, ((H5.out.1.setCell (Nat.le_refl _) _).setCell (Nat.le_refl _) _).setCell (Nat.le_refl _) _⟩
end Go.Proofs.YtejhphnlickjlaaDoor.ty
namespace Go.Proofs.YtejhphnlickjlaaDoor.ty
open Go.ChangeShapes Go.WideShapes Go.RowKit
open M T W
set_option linter.unusedVariables false
set_option maxHeartbeats 400000 in
theorem Int2_any (s : ByteArray) (n : Int) (w : World) : Calls Tryd.prog 11 #[.string s, .int .i64 n] w fun e w' => e = .returned (intV (nums s) n) ∧ Below w.heap.size w w' := by
  unfold intV vT
  have HB := Lib.hid (bits43_any s)
  by_cases hb : bitsT (nums s) = 0
  · rw [if_pos hb]
    rw [hb] at HB
    clear hb
    go_enter Tryd.func11, Tryd.ntmps11
    go_wp2_with (go_at_call 43; refine (HB.out _).mono ?_; rintro e w2 ⟨rfl, rfl⟩)
    try simp only [Exit.inBlock, Exit.then]
    refine bodyPost_ret (v := .tuple #[.agg #[.int .i64 0, .int .i64 0, .int .i64 0], .int .i64 5]) (by rw [results_cell_tmp rfl]; go_simp) rfl ?_
    exact ⟨rfl, (Below.refl _ _).alloc (Nat.le_refl _) _⟩
  · rw [if_neg hb]
    have HN := Lib.hid (fun W => number2_of s n W hb)
    unfold vT at HN
    have HO := Lib.hid (Own.new w)
    have hm : ((bitsT (nums s) : Int) == 0) = false := by rw [beq_eq_false_iff_ne]; omega
    clear hb
    generalize bitsT (nums s) = m at *
    generalize wrapT (nums s) n = x at *
    go_enter Tryd.func11, Tryd.ntmps11
    go_wp2_with (first
      | (go_at_call 43; refine (HB.out _).mono ?_; rintro e w2 ⟨rfl, rfl⟩)
      | (go_at_call 47; refine (HN.out _).mono ?_; rintro e w4 ⟨rfl, h4⟩; have h5 := HO.out.below h4; have H5 := Lib.hid h5; obtain ⟨c0, c1, c2, f0, f1, f2⟩ := h5.cells; clear h5 h4))
    try simp only [Exit.inBlock, Exit.then]
    refine bodyPost_ret (v := .tuple #[.agg #[.int .i64 1, .int .i64 x, .int .i64 0], .int .i64 0]) (by rw [results_cell_tmp rfl]; go_simp) rfl ?_
    exact ⟨rfl, ((H5.out.1.setCell (Nat.le_refl _) _).setCell (Nat.le_refl _) _).setCell (Nat.le_refl _) _⟩
theorem bound_any (s : ByteArray) (w : World) (hb : bitsT (nums s) ≠ 0) : Calls Tryd.prog 44 #[.string s] w fun e w' => e = .returned (.tuple #[.int .i64 (lowT (nums s)), .int .i64 (topT (nums s))]) ∧ w' = w := by
  have a4 := toList_one s 117 117 rfl
  have HB := Lib.hid (bits43_any s)
  rcases bits_one hb with h | h | h | h
  · rw [decide_eq_false (by rw [h]; decide)] at a4
    rw [show bitsT (nums s) = 8 from by rw [h]; rfl] at HB
    rw [show lowT (nums s) = -128 from by rw [h]; rfl, show topT (nums s) = 127 from by rw [h]; rfl]
    clear h hb
    go_enter Tryd.func44, Tryd.ntmps44
    go_wp2_with (go_at_call 43; refine (HB.out _).mono ?_; rintro e w2 ⟨rfl, rfl⟩)
    go_ret2
    exact ⟨rfl, rfl⟩
  · rw [decide_eq_false (by rw [h]; decide)] at a4
    rw [show bitsT (nums s) = 16 from by rw [h]; rfl] at HB
    rw [show lowT (nums s) = -32768 from by rw [h]; rfl, show topT (nums s) = 32767 from by rw [h]; rfl]
    clear h hb
    go_enter Tryd.func44, Tryd.ntmps44
    go_wp2_with (go_at_call 43; refine (HB.out _).mono ?_; rintro e w2 ⟨rfl, rfl⟩)
    go_ret2
    exact ⟨rfl, rfl⟩
  · rw [decide_eq_false (by rw [h]; decide)] at a4
    rw [show bitsT (nums s) = 32 from by rw [h]; rfl] at HB
    rw [show lowT (nums s) = -2147483648 from by rw [h]; rfl, show topT (nums s) = 2147483647 from by rw [h]; rfl]
    clear h hb
    go_enter Tryd.func44, Tryd.ntmps44
    go_wp2_with (go_at_call 43; refine (HB.out _).mono ?_; rintro e w2 ⟨rfl, rfl⟩)
    go_ret2
    exact ⟨rfl, rfl⟩
  · rw [decide_eq_true h] at a4
    rw [show lowT (nums s) = 0 from by rw [h]; rfl, show topT (nums s) = 4294967295 from by rw [h]; rfl]
    clear h hb HB
    go_enter Tryd.func44, Tryd.ntmps44
    go_wp2_with fail
    go_ret2
    exact ⟨rfl, rfl⟩
end Go.Proofs.YtejhphnlickjlaaDoor.ty
