/-
  Contracts of the words of package word and of the reference: Of, Ext, Signed. No condition beyond the ranges that the words have.
-/
import Derived.Test.YtejhphnlickjlaaDoorVaB
import Derived.Test.YtejhphnlickjlaaDoorWordPlain
import Derived.IntWalk
namespace Go.Proofs.YtejhphnlickjlaaDoor.ty
open Go.ChangeShapes Go.WideShapes Go.RowKit
open M T W
set_option linter.unusedVariables false
theorem own : ownKnob Tryd.prog.godebug = none := by kernel_rfl
theorem of_any (n : Int) (w : World) :
    Calls Tryd.prog 52 #[.int .i64 n] w fun e w' => e = .returned (.int .u32 (n % 4294967296)) ∧ w = w' := by
  go_enter Tryd.func52, Tryd.ntmps52
  go_wp2
  go_ret
  exact ⟨rfl, rfl⟩
theorem rof_any (n : Int) (w : World) :
    Calls Tryd.prog 54 #[.int .i64 n] w fun e w' => e = .returned (.int .u32 (n % 4294967296)) ∧ w = w' := by
  go_enter Tryd.func54, Tryd.ntmps54
  go_wp2
  go_ret
  exact ⟨rfl, rfl⟩
theorem rzext_yes (a n : Int) (w : World) (ha : 0 ≤ a) (ha' : a < 4294967296) (h1 : 1 ≤ n) (h2 : n ≤ 32) :
    Calls Tryd.prog 88 #[.int .u32 a, .int .i64 n] w fun e w' => e = .returned (.tuple #[.int .u32 (zext a n), .int .i64 0]) ∧ w = w' := by
  by_cases h : n = 32
  · subst h
    have hz : zext a 32 = a := by
      have e1 : (32 : Int).toNat = 32 := rfl
      unfold zext; rw [e1]; omega
    rw [hz]
    go_enter Tryd.func88, Tryd.ntmps88
    go_wp2
    go_ret2
    exact ⟨rfl, rfl⟩
  · have hb : (n == 32) = false := by simp [h]
    obtain ⟨p1, p2, p3⟩ := pow_le n h1 h2
    have hz : zext a n = a % 2 ^ n.toNat := rfl
    rw [hz]
    clear hz
    have p4 : (2 : Int) ^ n.toNat ≤ 2147483648 := by
      have h := (pow_le (n + 1) (by omega) (by omega)).2.1
      have e : (n + 1).toNat - 1 = n.toNat := by omega
      rwa [e] at h
    generalize ht : (2 : Int) ^ n.toNat = t at *
    have q1 : 1 ≤ t := by omega
    have e2 : t % 4294967296 = t := by omega
    clear p1 p2 p3
    have e3 : ¬ t = 0 := by omega
    go_enter Tryd.func88, Tryd.ntmps88
    go_wp2
    go_ret2
    exact ⟨rfl, rfl⟩
theorem ext_yes (a n : Int) (w : World) (ha : 0 ≤ a) (ha' : a < 4294967296) (h1 : 1 ≤ n) (h2 : n ≤ 32) :
    Calls Tryd.prog 74 #[.int .u32 a, .int .i64 n] w fun e w' => e = .returned (.tuple #[.int .u32 (ext a n), .int .i64 0]) ∧ w = w' := by
  rw [← ext_eq a n ha ha' h1 h2]
  go_enter Tryd.func74, Tryd.ntmps74
  go_wp2
  go_ret2
  exact ⟨rfl, rfl⟩
theorem rext_yes (a n : Int) (w : World) (ha : 0 ≤ a) (ha' : a < 4294967296) (h1 : 1 ≤ n) (h2 : n ≤ 32) :
    Calls Tryd.prog 77 #[.int .u32 a, .int .i64 n] w fun e w' => e = .returned (.tuple #[.int .u32 (ext a n), .int .i64 0]) ∧ w = w' := by
  obtain ⟨p1, p2, p3⟩ := pow_le n h1 h2
  have b1 : 0 ≤ zext a n := Int.emod_nonneg _ (by omega)
  have b2 : zext a n < 2 ^ n.toNat := Int.emod_lt_of_pos _ (by omega)
  have Hx : Hid (ext a n = if zext a n < 2 ^ (n.toNat - 1) then zext a n else (zext a n - 2 ^ n.toNat) % 4294967296) := Lib.hid rfl
  generalize ext a n = x at *
  have hz := rzext_yes a n w ha ha' h1 h2
  generalize zext a n = z at *
  have Hz := Lib.hid hz
  clear hz
  by_cases h : n = 32
  · subst h
    have Hb : Hid (x = z) := by
      have e1 : (32 : Int).toNat - 1 = 31 := rfl
      have e2 : (32 : Int).toNat = 32 := rfl
      rw [e1, e2] at Hx
      have := Hx.out
      refine Lib.hid ?_
      rw [this]; split
      · rfl
      · rw [e2] at b2; omega
    rw [Hb.out]
    clear Hb Hx
    go_enter Tryd.func77, Tryd.ntmps77
    go_wp2_with (go_at_call 88; refine Hz.out.mono ?_; rintro e w' ⟨rfl, rfl⟩)
    go_ret2
    exact ⟨rfl, rfl⟩
  · have hb : (n == 32) = false := by simp [h]
    have p4 : (2 : Int) ^ n.toNat ≤ 2147483648 := by
      have h := (pow_le (n + 1) (by omega) (by omega)).2.1
      have e : (n + 1).toNat - 1 = n.toNat := by omega
      rwa [e] at h
    generalize ht : (2 : Int) ^ n.toNat = t at *
    generalize hs : (2 : Int) ^ (n.toNat - 1) = s at *
    have e2 : t % 4294967296 = t := by omega
    have e2' : s % 4294967296 = s := by omega
    have e3 : wrap64 t = t := IntWalk.wrap64_in _ (by omega)
    have q3 : t ≤ 4294967296 := by omega
    have q4 : 0 ≤ t := by omega
    clear p3
    have hw : wrap64 (z - t) = z - t := IntWalk.wrap64_in _ (by omega)
    by_cases c : z < s
    · rw [Hx.out, if_pos c]
      clear Hx
      go_enter Tryd.func77, Tryd.ntmps77
      go_wp2_with (go_at_call 88; refine Hz.out.mono ?_; rintro e w' ⟨rfl, rfl⟩)
      go_ret2
      exact ⟨rfl, rfl⟩
    · rw [Hx.out, if_neg c]
      clear Hx
      go_enter Tryd.func77, Tryd.ntmps77
      go_wp2_with (first | (go_at_call 88; refine Hz.out.mono ?_; rintro e w' ⟨rfl, rfl⟩) | (go_at_call 54; refine (rof_any _ _).mono ?_; rintro e w' ⟨rfl, rfl⟩))
      go_ret2
      exact ⟨rfl, rfl⟩
theorem signed_word (a : Int) (w : World) (ha : 0 ≤ a) (ha' : a < 4294967296) :
    Calls Tryd.prog 75 #[.int .u32 a] w fun e w' => e = .returned (.int .i64 (sgn a)) ∧ w = w' := by
  have hw := wrap32_sgn a ha ha'
  by_cases h : a < 2147483648
  · have hx : sgn a = a := by unfold sgn; rw [if_pos h]
    rw [hx] at hw ⊢
    clear hx
    go_enter Tryd.func75, Tryd.ntmps75
    go_wp2
    go_ret
    exact ⟨rfl, rfl⟩
  · have hx : sgn a = a - 4294967296 := by unfold sgn; rw [if_neg h]
    rw [hx] at hw ⊢
    clear hx
    go_enter Tryd.func75, Tryd.ntmps75
    go_wp2
    go_ret
    exact ⟨rfl, rfl⟩
theorem rsigned_word (a : Int) (w : World) (ha : 0 ≤ a) (ha' : a < 4294967296) :
    Calls Tryd.prog 78 #[.int .u32 a] w fun e w' => e = .returned (.int .i64 (sgn a)) ∧ w = w' := by
  have hw := wrap32_sgn a ha ha'
  by_cases h : a < 2147483648
  · have hx : sgn a = a := by unfold sgn; rw [if_pos h]
    rw [hx] at hw ⊢
    clear hx
    go_enter Tryd.func78, Tryd.ntmps78
    go_wp2
    go_ret
    exact ⟨rfl, rfl⟩
  · have hx : sgn a = a - 4294967296 := by unfold sgn; rw [if_neg h]
    rw [hx] at hw ⊢
    clear hx
    go_enter Tryd.func78, Tryd.ntmps78
    go_wp2
    go_ret
    exact ⟨rfl, rfl⟩
end Go.Proofs.YtejhphnlickjlaaDoor.ty
