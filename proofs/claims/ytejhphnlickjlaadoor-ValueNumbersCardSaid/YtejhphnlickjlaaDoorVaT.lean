/-
  The contracts of Conv, of package value and of the reference, whole. Condition: the table of keywords stands in memory; lengths.
-/
import Derived.Test.YtejhphnlickjlaaDoorVaQb
import Derived.Test.YtejhphnlickjlaaDoorVaQd
import Derived.Test.YtejhphnlickjlaaDoorVaSb
namespace Go.Proofs.YtejhphnlickjlaaDoor.ty
open Go.ChangeShapes Go.WideShapes Go.RowKit
open M T W
set_option linter.unusedVariables false
theorem conv_no {l m : List Int} {k i o : Int} (h : ¬ ((bitsT l ≠ 0 ∧ bitsT m ≠ 0) ∨ (ptrT l = true ∧ ptrT m = true ∧ codeT l = codeT m))) : convV l m k i o = .tuple #[vT 0 0 0, .int .i64 5] := by
  unfold convV; rw [if_neg h]
theorem conv_num {l m : List Int} {k i o : Int} (h1 : bitsT l ≠ 0) (h2 : bitsT m ≠ 0) : convV l m k i o = if lookV l k i o = 0 then .tuple #[vT 1 (wrapT m i) 0, .int .i64 0] else .tuple #[vT 0 0 0, .int .i64 (lookV l k i o)] := by
  unfold convV; rw [if_pos (.inl ⟨h1, h2⟩), if_pos h1]
theorem conv_ptr {l m : List Int} {k i o : Int} (h0 : bitsT l = 0) (h1 : ptrT l = true) (h2 : ptrT m = true) (h3 : codeT l = codeT m) : convV l m k i o = if lookV l k i o = 0 then .tuple #[vT k i o, .int .i64 0] else .tuple #[vT 0 0 0, .int .i64 (lookV l k i o)] := by
  unfold convV; rw [if_pos (.inr ⟨h1, h2, h3⟩), if_neg (c := bitsT l ≠ 0) (fun h => h h0)]
theorem conv_ret {a b : Value} {w : World} (h : b = a) {e : Ending} {w' : World} (hh : e = .returned a ∧ Below w.heap.size w w') : e = .returned b ∧ Below w.heap.size w w' := by rw [h]; exact hh
theorem ptr_whole {l : List Int} (h : bitsT l ≠ 0) : ptrT l = false := by
  cases hp : ptrT l
  · rfl
  · exact absurd (ptr_bits hp) h
theorem Conv_any (s t : ByteArray) (k i o : Int) (w : World) (hK : KeysIn w) (hs : s.size ≤ maxLen) (ht : t.size ≤ maxLen) :
    Calls Tryd.prog 12 #[.string s, .string t, vT k i o] w fun e w' => e = .returned (convV (T.nums s) (T.nums t) k i o) ∧ Below w.heap.size w w' := by
  have HA : Hid (SortC w s t k i o 38 s (decide (bitsT (T.nums s) ≠ 0))) := Lib.hid (fun W h => (whole_any s W).mono fun e w' ⟨a, b⟩ => ⟨a, h.after b⟩)
  have HB : Hid (SortC w s t k i o 38 t (decide (bitsT (T.nums t) ≠ 0))) := Lib.hid (fun W h => (whole_any t W).mono fun e w' ⟨a, b⟩ => ⟨a, h.after b⟩)
  have PA : Hid (SortC w s t k i o 39 s (ptrT (T.nums s))) := Lib.hid (fun W h => (pointer_any s W (hK.below h.below) hs).mono fun e w' ⟨a, b⟩ => ⟨a, h.after b⟩)
  have PB : Hid (SortC w s t k i o 39 t (ptrT (T.nums t))) := Lib.hid (fun W h => (pointer_any t W (hK.below h.below) ht).mono fun e w' ⟨a, b⟩ => ⟨a, h.after b⟩)
  have CA : Hid (SortC w s t k i o 41 s (codeT (T.nums s))) := Lib.hid (fun W h => (code_any s W (hK.below h.below) hs).mono fun e w' ⟨a, b⟩ => ⟨a, h.after b⟩)
  have CB : Hid (SortC w s t k i o 41 t (codeT (T.nums t))) := Lib.hid (fun W h => (code_any t W (hK.below h.below) ht).mono fun e w' ⟨a, b⟩ => ⟨a, h.after b⟩)
  have HL : Hid (LookC w s t k i o (lookV (T.nums s) k i o)) := Lib.hid (fun W g c h hr => (look48_of (Lib.hid (hK.below h.below)) (fun W hW => Of_any s k i o W hW hs) hr).mono fun e w' ⟨a, b⟩ => ⟨a, h.after b⟩)
  by_cases ha : bitsT (T.nums s) = 0
  · rw [decide_eq_false (fun h => h ha)] at HA
    cases hp : ptrT (T.nums s)
    · rw [hp] at PA
      exact (Conv_n1 HA PA).mono fun e w' hh => conv_ret (conv_no (by rw [hp]; simp [ha])) hh
    · rw [hp] at PA
      cases hq : ptrT (T.nums t)
      · rw [hq] at PB
        exact (Conv_n3 HA PA PB).mono fun e w' hh => conv_ret (conv_no (by rw [hp, hq]; simp [ha])) hh
      · rw [hq] at PB
        cases hf : codeT (T.nums s) <;> cases hg : codeT (T.nums t) <;> rw [hf] at CA <;> rw [hg] at CB
        · exact (Conv_y3 HA PA PB CA CB HL).mono fun e w' hh => conv_ret (conv_ptr ha hp hq (by rw [hf, hg])) hh
        · exact (Conv_n5 HA PA PB CA CB).mono fun e w' hh => conv_ret (conv_no (by rw [hf, hg]; simp [ha])) hh
        · exact (Conv_n4 HA PA PB CA CB).mono fun e w' hh => conv_ret (conv_no (by rw [hf, hg]; simp [ha])) hh
        · exact (Conv_y2 HA PA PB CA CB HL).mono fun e w' hh => conv_ret (conv_ptr ha hp hq (by rw [hf, hg])) hh
  · rw [decide_eq_true ha] at HA
    have hp := ptr_whole ha
    rw [hp] at PA
    by_cases hb : bitsT (T.nums t) = 0
    · rw [decide_eq_false (fun h => h hb)] at HB
      exact (Conv_n2 HA HB PA).mono fun e w' hh => conv_ret (conv_no (by rw [hp]; simp [hb])) hh
    · rw [decide_eq_true hb] at HB
      have HI : Hid (∀ W, Calls Tryd.prog 10 #[.string t, .int .i64 i] W fun e w' => e = .returned (.tuple #[.agg #[.int .i64 1, .int .i64 (wrapT (T.nums t) i), .int .i64 0], .int .i64 0]) ∧ Below W.heap.size W w') :=
        Lib.hid (fun W => by have := Int_any t i W; unfold intV vT at this; rw [if_neg hb] at this; exact this)
      exact (Conv_y1 HA HB HL HI).mono fun e w' hh => conv_ret (conv_num ha hb) hh
theorem Conv2_any (s t : ByteArray) (k i o : Int) (w : World) (hs : s.size ≤ maxLen) (ht : t.size ≤ maxLen) :
    Calls Tryd.prog 13 #[.string s, .string t, vT k i o] w fun e w' => e = .returned (convV (T.nums s) (T.nums t) k i o) ∧ Below w.heap.size w w' := by
  have PA : Hid (PtrD w k i o s (ptrT (T.nums s)) (codeT (T.nums s))) := Lib.hid (fun W h => (pointer2_any s W hs).mono fun e w' ⟨a, b⟩ => ⟨a, h.after b⟩)
  have PB : Hid (PtrD w k i o t (ptrT (T.nums t)) (codeT (T.nums t))) := Lib.hid (fun W h => (pointer2_any t W ht).mono fun e w' ⟨a, b⟩ => ⟨a, h.after b⟩)
  have BA : Hid (BitD s (bitsT (T.nums s))) := Lib.hid (bits43_any s)
  have BB : Hid (BitD t (bitsT (T.nums t))) := Lib.hid (bits43_any t)
  have HL : Hid (LookD w s k i o 49 (lookV (T.nums s) k i o)) := Lib.hid (fun W g c h hr => (look49_of (fun W => Of2_any s k i o W hs) hr).mono fun e w' ⟨a, b⟩ => ⟨a, h.after b⟩)
  by_cases ha : bitsT (T.nums s) = 0
  · rw [ha] at BA
    cases hp : ptrT (T.nums s)
    · rw [hp] at PA
      exact (Conv2_n1 PA PB BA).mono fun e w' hh => conv_ret (conv_no (by rw [hp]; simp [ha])) hh
    · rw [hp] at PA
      cases hq : ptrT (T.nums t)
      · rw [hq] at PB
        exact (Conv2_n3 PA PB BA).mono fun e w' hh => conv_ret (conv_no (by rw [hp, hq]; simp [ha])) hh
      · rw [hq] at PB
        cases hf : codeT (T.nums s) <;> cases hg : codeT (T.nums t) <;> rw [hf] at PA <;> rw [hg] at PB
        · exact (Conv2_y3 PA PB BA HL).mono fun e w' hh => conv_ret (conv_ptr ha hp hq (by rw [hf, hg])) hh
        · exact (Conv2_n5 PA PB BA).mono fun e w' hh => conv_ret (conv_no (by rw [hf, hg]; simp [ha])) hh
        · exact (Conv2_n4 PA PB BA).mono fun e w' hh => conv_ret (conv_no (by rw [hf, hg]; simp [ha])) hh
        · exact (Conv2_y2 PA PB BA HL).mono fun e w' hh => conv_ret (conv_ptr ha hp hq (by rw [hf, hg])) hh
  · have hp := ptr_whole ha
    by_cases hb : bitsT (T.nums t) = 0
    · rw [hp] at PA
      rw [hb] at BB
      exact (Conv2_n2 PA PB BA BB (by omega)).mono fun e w' hh => conv_ret (conv_no (by rw [hp]; simp [hb])) hh
    · have HN : Hid (∀ W, Calls Tryd.prog 47 #[.string t, .int .i64 i] W fun e w' => e = .returned (.agg #[.int .i64 1, .int .i64 (wrapT (T.nums t) i), .int .i64 0]) ∧ Below W.heap.size W w') := Lib.hid (fun W => number2_of t i W hb)
      exact (Conv2_y1 PA PB BA BB (by omega) (by omega) HL HN).mono fun e w' hh => conv_ret (conv_num ha hb) hh
end Go.Proofs.YtejhphnlickjlaaDoor.ty
