/-
  Contracts of wrap, number, Int of package value, and of number, bound, Int of the reference. No condition beyond the ranges of numbers.
-/
import Derived.Test.YtejhphnlickjlaaDoorVaC
import Derived.Laws.ResultCell
namespace Go.Proofs.YtejhphnlickjlaaDoor.ty
open Go.ChangeShapes Go.WideShapes Go.RowKit
open M T W
set_option linter.unusedVariables false
theorem sgn_ext8 (n : Int) : sgn (ext (n % 4294967296) 8) = (n + 128) % 256 - 128 := by
  unfold sgn ext zext
  simp only [show (8 : Int).toNat = 8 from rfl, Nat.reduceSub, Int.reducePow]
  split <;> (try split) <;> omega
theorem sgn_ext16 (n : Int) : sgn (ext (n % 4294967296) 16) = (n + 32768) % 65536 - 32768 := by
  unfold sgn ext zext
  simp only [show (16 : Int).toNat = 16 from rfl, Nat.reduceSub, Int.reducePow]
  split <;> (try split) <;> omega
theorem sgn_ext32 (n : Int) : sgn (ext (n % 4294967296) 32) = (n + 2147483648) % 4294967296 - 2147483648 := by
  unfold sgn ext zext
  simp only [show (32 : Int).toNat = 32 from rfl, Nat.reduceSub, Int.reducePow]
  split <;> (try split) <;> omega
theorem wrap_words {l : List Int} (h : bitsT l ≠ 0) (hu : l ≠ [117]) (n : Int) : wrapT l n = sgn (ext (n % 4294967296) (bitsT l : Nat)) := by
  unfold wrapT
  rw [if_neg hu]
  rcases bits_one h with e | e | e | e
  · subst e
    rw [show bitsT [99] = 8 from rfl]
    simp only [Nat.reduceSub, Int.reducePow]
    exact (sgn_ext8 n).symm
  · subst e
    rw [show bitsT [115] = 16 from rfl]
    simp only [Nat.reduceSub, Int.reducePow]
    exact (sgn_ext16 n).symm
  · subst e
    rw [show bitsT [105] = 32 from rfl]
    simp only [Nat.reduceSub, Int.reducePow]
    exact (sgn_ext32 n).symm
  · exact absurd e hu
theorem wrap_u {l : List Int} (hu : l = [117]) (n : Int) : wrapT l n = n % 4294967296 := by unfold wrapT; rw [if_pos hu]
theorem ext_bd (a n : Int) (ha : 0 ≤ a) (ha' : a < 4294967296) (h1 : 1 ≤ n) (h2 : n ≤ 32) : 0 ≤ ext a n ∧ ext a n < 4294967296 := by
  obtain ⟨p1, p2, p3⟩ := pow_le n h1 h2
  have b1 : 0 ≤ zext a n := Int.emod_nonneg _ (by omega)
  have b2 : zext a n < 2 ^ n.toNat := Int.emod_lt_of_pos _ (by omega)
  unfold ext
  split <;> omega
theorem bits_bd (l : List Int) (h : bitsT l ≠ 0) : (1 : Int) ≤ (bitsT l : Nat) ∧ ((bitsT l : Nat) : Int) ≤ 32 := by
  rcases bits_cases l with e | e | e | e <;> omega
/-- a value, as it is handed on -/
def vT (k i o : Int) : Value := .agg #[.int .i64 k, .int .i64 i, .int .i64 o]
theorem wrap_any (s : ByteArray) (n : Int) (w : World) (hb : bitsT (nums s) ≠ 0) : Calls Tryd.prog 40 #[.string s, .int .i64 n] w fun e w' => e = .returned (.int .i64 (wrapT (nums s) n)) ∧ w = w' := by
  have a4 := toList_one s 117 117 rfl
  have HO := Lib.hid (of_any n)
  by_cases hu : nums s = [117]
  · rw [wrap_u hu]
    rw [decide_eq_true hu] at a4
    have q0 : 0 ≤ n % 4294967296 := by omega
    have q1 : n % 4294967296 < 4294967296 := by omega
    clear hu hb
    generalize n % 4294967296 = a at *
    go_enter Tryd.func40, Tryd.ntmps40
    go_wp2_with (go_at_call 52; refine (HO.out _).mono ?_; rintro e w1 ⟨rfl, rfl⟩)
    go_ret
    exact ⟨rfl, rfl⟩
  · rw [wrap_words hb hu]
    rw [decide_eq_false hu] at a4
    have q0 : 0 ≤ n % 4294967296 := by omega
    have q1 : n % 4294967296 < 4294967296 := by omega
    generalize n % 4294967296 = a at *
    obtain ⟨p1, p2⟩ := bits_bd _ hb
    obtain ⟨r0, r1⟩ := ext_bd a (bitsT (nums s) : Nat) q0 q1 p1 p2
    have HB := Lib.hid (bits45_any s)
    have HE := Lib.hid (fun W => ext_yes a (bitsT (nums s) : Nat) W q0 q1 p1 p2)
    have HS := Lib.hid (fun W => signed_word (ext a (bitsT (nums s) : Nat)) W r0 r1)
    clear hu hb
    generalize ext a (bitsT (nums s) : Nat) = x at *
    generalize bitsT (nums s) = m at *
    go_enter Tryd.func40, Tryd.ntmps40
    go_wp2_with (first
      | (go_at_call 52; refine (HO.out _).mono ?_; rintro e w1 ⟨rfl, rfl⟩)
      | (go_at_call 45; refine (HB.out _).mono ?_; rintro e w2 ⟨rfl, rfl⟩)
      | (go_at_call 74; refine (HE.out _).mono ?_; rintro e w3 ⟨rfl, rfl⟩)
      | (go_at_call 75; refine (HS.out _).mono ?_; rintro e w4 ⟨rfl, rfl⟩))
    go_ret
    exact ⟨rfl, rfl⟩
theorem results_cell1 {fn : Func} {p : Tmp} {ty : TypeId} (h : fn.results = #[.cell p ty]) (tmps : Array Value) (P : Program) (w : World) :
    (results fn tmps).run P w = ((asAddr (tmps.getD p undef)).run P w).andThen fun a w₁ => (loadVar ty a).run P w₁ := by
  simp only [results, h]
  simp [Sem.run_bind, Result.andThen]
theorem number_of (n : Int) (w : World) : Calls Tryd.prog 46 #[.int .i64 n] w fun e w' => e = .returned (vT 1 n 0) ∧ Below w.heap.size w w' := by
  unfold vT
  go_enter Tryd.func46, Tryd.ntmps46
  go_wp2
  try simp only [Exit.inBlock, Exit.then]
  refine bodyPost_ret (v := .agg #[.int .i64 1, .int .i64 n, .int .i64 0]) (by rw [results_cell1 rfl]; go_simp) rfl ?_
  exact ⟨rfl, (Below.refl _ _).alloc (Nat.le_refl _) _⟩
end Go.Proofs.YtejhphnlickjlaaDoor.ty
