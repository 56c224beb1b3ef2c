/-
  The contracts of the functions that the law WordShifts calls (word and its reference). No condition beyond the ranges that the words have.
-/
import Derived.Test.YtinjfmcmjhehoaaRows
import Derived.WalkKit
import Derived.ProofKit
import Derived.OpenShut
import Derived.LoopTactic
import Derived.Test.YtinjfmcmjhehoaaWordPlain
import Derived.Lib.Hide
namespace Go.Proofs.Ytinjfmcmjhehoaa.wordShifts
open Go.ChangeShapes Go.WideShapes Go.ChangeAt Go.RowKit
set_option linter.unusedVariables false      -- a walk need not use every 'w<i>' (that an integer argument fits its kind)

theorem own : ownKnob Try.prog.godebug = none := by kernel_rfl

open W
/-! ### the callees' contracts -/
theorem shl_any (a n : Int) (w : World) (ha : 0 ≤ a) (ha' : a < 4294967296) (hn : 0 ≤ n) (hn' : n < 4294967296) :
    Calls Try.prog 20 #[.int .u32 a, .int .u32 n] w fun e w' => e = .returned (.int .u32 (shl a n)) ∧ w = w' := by
  have h := and31 n hn hn'
  go_enter Try.func20, Try.ntmps20
  go_wp2
  go_ret
  exact ⟨rfl, rfl⟩
theorem rshl_any (a n : Int) (w : World) (ha : 0 ≤ a) (ha' : a < 4294967296) (hn : 0 ≤ n) (hn' : n < 4294967296) :
    Calls Try.prog 21 #[.int .u32 a, .int .u32 n] w fun e w' => e = .returned (.int .u32 (shl a n)) ∧ w = w' := by
  go_enter Try.func21, Try.ntmps21
  go_wp2
  go_ret
  exact ⟨rfl, rfl⟩
theorem shr_any (a n : Int) (w : World) (ha : 0 ≤ a) (ha' : a < 4294967296) (hn : 0 ≤ n) (hn' : n < 4294967296) :
    Calls Try.prog 22 #[.int .u32 a, .int .u32 n] w fun e w' => e = .returned (.int .u32 (shr a n)) ∧ w = w' := by
  have h := and31 n hn hn'
  go_enter Try.func22, Try.ntmps22
  go_wp2
  go_ret
  exact ⟨by unfold shr; rw [← wrap32_sgn a ha ha']; rfl, rfl⟩
theorem rshr_any (a n : Int) (w : World) (ha : 0 ≤ a) (ha' : a < 4294967296) (hn : 0 ≤ n) (hn' : n < 4294967296) :
    Calls Try.prog 23 #[.int .u32 a, .int .u32 n] w fun e w' => e = .returned (.int .u32 (shr a n)) ∧ w = w' := by
  by_cases h : a < 2147483648
  · have hs : shr a n = a / 2 ^ (n % 32).toNat % 4294967296 := by unfold shr sgn; rw [if_pos h]
    rw [hs]
    go_enter Try.func23, Try.ntmps23
    go_wp2
    go_ret
    exact ⟨rfl, rfl⟩
  · have hs : shr a n = (a - 4294967296) / 2 ^ (n % 32).toNat % 4294967296 := by unfold shr sgn; rw [if_neg h]
    rw [hs]
    go_enter Try.func23, Try.ntmps23
    go_wp2
    go_ret
    exact ⟨rfl, rfl⟩
theorem shru_any (a n : Int) (w : World) (ha : 0 ≤ a) (ha' : a < 4294967296) (hn : 0 ≤ n) (hn' : n < 4294967296) :
    Calls Try.prog 24 #[.int .u32 a, .int .u32 n] w fun e w' => e = .returned (.int .u32 (shru a n)) ∧ w = w' := by
  have h := and31 n hn hn'
  go_enter Try.func24, Try.ntmps24
  go_wp2
  go_ret
  exact ⟨rfl, rfl⟩
theorem rshru_any (a n : Int) (w : World) (ha : 0 ≤ a) (ha' : a < 4294967296) (hn : 0 ≤ n) (hn' : n < 4294967296) :
    Calls Try.prog 25 #[.int .u32 a, .int .u32 n] w fun e w' => e = .returned (.int .u32 (shru a n)) ∧ w = w' := by
  go_enter Try.func25, Try.ntmps25
  go_wp2
  go_ret
  exact ⟨rfl, rfl⟩
theorem rot_any (a n : Int) (w : World) (ha : 0 ≤ a) (ha' : a < 4294967296) (hn : 0 ≤ n) (hn' : n < 4294967296) :
    Calls Try.prog 26 #[.int .u32 a, .int .u32 n] w fun e w' => e = .returned (.int .u32 (rot a n)) ∧ w = w' := by
  have h := and31 n hn hn'
  go_enter Try.func26, Try.ntmps26
  go_wp2
  go_ret
  exact ⟨rfl, rfl⟩
theorem rrot_any (a n : Int) (w : World) (ha : 0 ≤ a) (ha' : a < 4294967296) (hn : 0 ≤ n) (hn' : n < 4294967296) :
    Calls Try.prog 27 #[.int .u32 a, .int .u32 n] w fun e w' => e = .returned (.int .u32 (rot a n)) ∧ w = w' := by
  by_cases h : n % 32 = 0
  · rw [rot_zero a n ha ha' h]
    have hb : (n % 32 == 0) = true := by simp [h]
    clear h
    go_enter Try.func27, Try.ntmps27
    go_wp2
    go_ret
    exact ⟨rfl, rfl⟩
  · have hb : (n % 32 == 0) = false := by simp [h]
    go_enter Try.func27, Try.ntmps27
    go_wp2
    go_ret
    exact ⟨rfl, rfl⟩
theorem fits_no (m n : Int) (w : World) (hn : n < 1 ∨ 32 < n) :
    Calls Try.prog 28 #[.int .i64 m, .int .i64 n] w fun e w' => e = .returned (.bool false) ∧ w = w' := by
  rcases hn with h | h
  · go_enter Try.func28, Try.ntmps28
    go_wp2
    go_ret
    exact ⟨rfl, rfl⟩
  · go_enter Try.func28, Try.ntmps28
    go_wp2
    go_ret
    exact ⟨rfl, rfl⟩
theorem rfits_no (m n : Int) (w : World) (hn : n < 1 ∨ 32 < n) :
    Calls Try.prog 29 #[.int .i64 m, .int .i64 n] w fun e w' => e = .returned (.bool false) ∧ w = w' := by
  rcases hn with h | h
  · go_enter Try.func29, Try.ntmps29
    go_wp2
    go_ret
    exact ⟨rfl, rfl⟩
  · have h1 : 1 ≤ n := by omega
    go_enter Try.func29, Try.ntmps29
    go_wp2
    go_ret
    exact ⟨rfl, rfl⟩
theorem fits_yes (m n : Int) (w : World) (h1 : 1 ≤ n) (h2 : n ≤ 32) (b : Bool) (hb : (decide (-2 ^ (n.toNat - 1) ≤ m) && decide (m < 2 ^ (n.toNat - 1))) = b) :
    Calls Try.prog 28 #[.int .i64 m, .int .i64 n] w fun e w' => e = .returned (.bool b) ∧ w = w' := by
  obtain ⟨p1, p2, -⟩ := pow_le n h1 h2
  generalize ht : (2 : Int) ^ (n.toNat - 1) = t at *
  have e1 : wrap64 (-t) = -t := IntWalk.wrap64_in _ (by omega)
  have e2 : wrap64 t = t := IntWalk.wrap64_in _ (by omega)
  have e3 : wrap64 (t - 1) = t - 1 := IntWalk.wrap64_in _ (by omega)
  have Hb := Lib.hid hb
  clear hb
  by_cases c1 : m < -t
  · go_enter Try.func28, Try.ntmps28
    go_wp2
    go_ret
    exact ⟨by rw [← Hb.out]; simp; omega, rfl⟩
  · by_cases c2 : m ≤ t - 1
    · go_enter Try.func28, Try.ntmps28
      go_wp2
      go_ret
      exact ⟨by rw [← Hb.out]; simp; omega, rfl⟩
    · go_enter Try.func28, Try.ntmps28
      go_wp2
      go_ret
      exact ⟨by rw [← Hb.out]; simp; omega, rfl⟩
theorem rfits_yes (m n : Int) (w : World) (h1 : 1 ≤ n) (h2 : n ≤ 32) (b : Bool) (hb : (decide (-2 ^ (n.toNat - 1) ≤ m) && decide (m < 2 ^ (n.toNat - 1))) = b) :
    Calls Try.prog 29 #[.int .i64 m, .int .i64 n] w fun e w' => e = .returned (.bool b) ∧ w = w' := by
  obtain ⟨p1, p2, -⟩ := pow_le n h1 h2
  generalize ht : (2 : Int) ^ (n.toNat - 1) = t at *
  have e1 : wrap64 (-t) = -t := IntWalk.wrap64_in _ (by omega)
  have e2 : wrap64 t = t := IntWalk.wrap64_in _ (by omega)
  have Hb := Lib.hid hb
  clear hb
  by_cases c1 : m < -t
  · go_enter Try.func29, Try.ntmps29
    go_wp2
    go_ret
    exact ⟨by rw [← Hb.out]; simp; omega, rfl⟩
  · by_cases c2 : m < t
    · go_enter Try.func29, Try.ntmps29
      go_wp2
      go_ret
      exact ⟨by rw [← Hb.out]; simp; omega, rfl⟩
    · go_enter Try.func29, Try.ntmps29
      go_wp2
      go_ret
      exact ⟨by rw [← Hb.out]; simp; omega, rfl⟩
theorem zext_no (a n : Int) (w : World) (hn : n < 1 ∨ 32 < n) :
    Calls Try.prog 32 #[.int .u32 a, .int .i64 n] w fun e w' => e = .returned (.tuple #[.int .u32 0, .int .i64 1]) ∧ w = w' := by
  rcases hn with h | h
  · go_enter Try.func32, Try.ntmps32
    go_wp2
    go_ret2
    exact ⟨rfl, rfl⟩
  · go_enter Try.func32, Try.ntmps32
    go_wp2
    go_ret2
    exact ⟨rfl, rfl⟩
theorem zext_yes (a n : Int) (w : World) (ha : 0 ≤ a) (ha' : a < 4294967296) (h1 : 1 ≤ n) (h2 : n ≤ 32) :
    Calls Try.prog 32 #[.int .u32 a, .int .i64 n] w fun e w' => e = .returned (.tuple #[.int .u32 (zext a n), .int .i64 0]) ∧ w = w' := by
  rw [← zext_eq a n ha ha' h1 h2]
  go_enter Try.func32, Try.ntmps32
  go_wp2
  go_ret2
  exact ⟨rfl, rfl⟩
theorem rzext_no (a n : Int) (w : World) (hn : n < 1 ∨ 32 < n) :
    Calls Try.prog 33 #[.int .u32 a, .int .i64 n] w fun e w' => e = .returned (.tuple #[.int .u32 0, .int .i64 1]) ∧ w = w' := by
  rcases hn with h | h
  · go_enter Try.func33, Try.ntmps33
    go_wp2
    go_ret2
    exact ⟨rfl, rfl⟩
  · go_enter Try.func33, Try.ntmps33
    go_wp2
    go_ret2
    exact ⟨rfl, rfl⟩
theorem rzext_yes (a n : Int) (w : World) (ha : 0 ≤ a) (ha' : a < 4294967296) (h1 : 1 ≤ n) (h2 : n ≤ 32) :
    Calls Try.prog 33 #[.int .u32 a, .int .i64 n] w fun e w' => e = .returned (.tuple #[.int .u32 (zext a n), .int .i64 0]) ∧ w = w' := by
  by_cases h : n = 32
  · subst h
    have hz : zext a 32 = a := by
      have e1 : (32 : Int).toNat = 32 := rfl
      unfold zext; rw [e1]; omega
    rw [hz]
    go_enter Try.func33, Try.ntmps33
    go_wp2
    go_ret2
    exact ⟨rfl, rfl⟩
  · have hb : (n == 32) = false := by simp [h]
    obtain ⟨p1, p2, p3⟩ := pow_le n h1 h2
    have hz : zext a n = a % 2 ^ n.toNat := rfl
    rw [hz]
    clear hz
    have p4 : (2 : Int) ^ n.toNat ≤ 2147483648 := by
      have h := (pow_le (n + 1) (by omega) (by omega)).2.1
      have e : (n + 1).toNat - 1 = n.toNat := by omega
      rwa [e] at h
    generalize ht : (2 : Int) ^ n.toNat = t at *
    have q1 : 1 ≤ t := by omega
    have e2 : t % 4294967296 = t := by omega
    clear p1 p2 p3
    have e3 : ¬ t = 0 := by omega
    go_enter Try.func33, Try.ntmps33
    go_wp2
    go_ret2
    exact ⟨rfl, rfl⟩

theorem of_any (n : Int) (w : World) :
    Calls Try.prog 53 #[.int .i64 n] w fun e w' => e = .returned (.int .u32 (n % 4294967296)) ∧ w = w' := by
  go_enter Try.func53, Try.ntmps53
  go_wp2
  go_ret
  exact ⟨rfl, rfl⟩
theorem ext_no (a n : Int) (w : World) (hn : n < 1 ∨ 32 < n) :
    Calls Try.prog 30 #[.int .u32 a, .int .i64 n] w fun e w' => e = .returned (.tuple #[.int .u32 0, .int .i64 1]) ∧ w = w' := by
  rcases hn with h | h
  · go_enter Try.func30, Try.ntmps30
    go_wp2
    go_ret2
    exact ⟨rfl, rfl⟩
  · go_enter Try.func30, Try.ntmps30
    go_wp2
    go_ret2
    exact ⟨rfl, rfl⟩
theorem ext_yes (a n : Int) (w : World) (ha : 0 ≤ a) (ha' : a < 4294967296) (h1 : 1 ≤ n) (h2 : n ≤ 32) :
    Calls Try.prog 30 #[.int .u32 a, .int .i64 n] w fun e w' => e = .returned (.tuple #[.int .u32 (ext a n), .int .i64 0]) ∧ w = w' := by
  rw [← ext_eq a n ha ha' h1 h2]
  go_enter Try.func30, Try.ntmps30
  go_wp2
  go_ret2
  exact ⟨rfl, rfl⟩
theorem rext_no (a n : Int) (w : World) (hn : n < 1 ∨ 32 < n) :
    Calls Try.prog 31 #[.int .u32 a, .int .i64 n] w fun e w' => e = .returned (.tuple #[.int .u32 0, .int .i64 1]) ∧ w = w' := by
  go_enter Try.func31, Try.ntmps31
  go_wp2_with (go_at_call 33; refine (rzext_no a n _ hn).mono ?_; rintro e w' ⟨rfl, rfl⟩)
  go_ret2
  exact ⟨rfl, rfl⟩
theorem rext_yes (a n : Int) (w : World) (ha : 0 ≤ a) (ha' : a < 4294967296) (h1 : 1 ≤ n) (h2 : n ≤ 32) :
    Calls Try.prog 31 #[.int .u32 a, .int .i64 n] w fun e w' => e = .returned (.tuple #[.int .u32 (ext a n), .int .i64 0]) ∧ w = w' := by
  obtain ⟨p1, p2, p3⟩ := pow_le n h1 h2
  have b1 : 0 ≤ zext a n := Int.emod_nonneg _ (by omega)
  have b2 : zext a n < 2 ^ n.toNat := Int.emod_lt_of_pos _ (by omega)
  have Hx : Hid (ext a n = if zext a n < 2 ^ (n.toNat - 1) then zext a n else (zext a n - 2 ^ n.toNat) % 4294967296) := Lib.hid rfl
  generalize ext a n = x at *
  have hz := rzext_yes a n w ha ha' h1 h2
  generalize zext a n = z at *
  have Hz := Lib.hid hz
  clear hz
  by_cases h : n = 32
  · subst h
    have Hb : Hid (x = z) := by
      have e1 : (32 : Int).toNat - 1 = 31 := rfl
      have e2 : (32 : Int).toNat = 32 := rfl
      rw [e1, e2] at Hx
      have := Hx.out
      refine Lib.hid ?_
      rw [this]; split
      · rfl
      · rw [e2] at b2; omega
    rw [Hb.out]
    clear Hb Hx
    go_enter Try.func31, Try.ntmps31
    go_wp2_with (go_at_call 33; refine Hz.out.mono ?_; rintro e w' ⟨rfl, rfl⟩)
    go_ret2
    exact ⟨rfl, rfl⟩
  · have hb : (n == 32) = false := by simp [h]
    have p4 : (2 : Int) ^ n.toNat ≤ 2147483648 := by
      have h := (pow_le (n + 1) (by omega) (by omega)).2.1
      have e : (n + 1).toNat - 1 = n.toNat := by omega
      rwa [e] at h
    generalize ht : (2 : Int) ^ n.toNat = t at *
    generalize hs : (2 : Int) ^ (n.toNat - 1) = s at *
    have e2 : t % 4294967296 = t := by omega
    have e2' : s % 4294967296 = s := by omega
    have e3 : wrap64 t = t := IntWalk.wrap64_in _ (by omega)
    have q3 : t ≤ 4294967296 := by omega
    have q4 : 0 ≤ t := by omega
    clear p3
    have hw : wrap64 (z - t) = z - t := IntWalk.wrap64_in _ (by omega)
    by_cases c : z < s
    · rw [Hx.out, if_pos c]
      clear Hx
      go_enter Try.func31, Try.ntmps31
      go_wp2_with (go_at_call 33; refine Hz.out.mono ?_; rintro e w' ⟨rfl, rfl⟩)
      go_ret2
      exact ⟨rfl, rfl⟩
    · rw [Hx.out, if_neg c]
      clear Hx
      go_enter Try.func31, Try.ntmps31
      go_wp2_with (first | (go_at_call 33; refine Hz.out.mono ?_; rintro e w' ⟨rfl, rfl⟩) | (go_at_call 53; refine (of_any _ _).mono ?_; rintro e w' ⟨rfl, rfl⟩))
      go_ret2
      exact ⟨rfl, rfl⟩

theorem ret3 {a b c a' b' c' : Int} (h1 : a = a') (h2 : b = b') (h3 : c = c') : Ending.returned (.tuple #[.int .i64 a, .int .i64 b, .int .i64 c]) = .returned (.tuple #[.int .i64 a', .int .i64 b', .int .i64 c']) := by rw [h1, h2, h3]
theorem shift_bd (a : Int) (k : Nat) (ha : 0 ≤ a) (ha' : a < 4294967296) : 0 ≤ a / 2 ^ k ∧ a / 2 ^ k < 4294967296 := by
  have h1 : (0:Int) < 2 ^ k := Int.pow_pos (by omega)
  refine ⟨Int.ediv_nonneg ha (by omega), ?_⟩
  refine Int.lt_of_le_of_lt (Int.ediv_le_self _ ha) ha'
set_option maxHeartbeats 400000 in
theorem count_any (a : Int) (w : World) (ha : 0 ≤ a) (ha' : a < 4294967296) :
    Calls Try.prog 34 #[.int .u32 a] w fun e w' => e = .returned (.tuple #[.int .i64 (cnt a 32).1, .int .i64 (cnt a 32).2.1, .int .i64 (cnt a 32).2.2]) ∧ w = w' := by
  go_enter Try.func34, Try.ntmps34
  go_wp2
  go_loop [5, 6, 7, 9] (fun s hi lo i => ∃ k : Nat, k ≤ 32 ∧ i = .int .i64 k ∧ s = .int .i64 (cnt a k).1 ∧ hi = .int .i64 (cnt a k).2.1 ∧ lo = .int .i64 (cnt a k).2.2) (fun _ _ _ i => 32 - (intOf i).toNat)
  case atStart => exact ⟨0, by omega, rfl, rfl, rfl, rfl⟩
  case round =>
    obtain ⟨k, hk, rfl, rfl, rfl, rfl⟩ := hrel
    by_cases hlt : k < 32
    · obtain ⟨b1, b2⟩ := shift_bd a k ha ha'
      obtain ⟨c1, c2⟩ := cnt_bd a k hk
      have hand := and1 (a / 2 ^ k) b1 b2
      have HS : Hid (cnt a (k + 1) = if a / 2 ^ k % 2 = 0 then cnt a k else ((cnt a k).1 + 1, 31 - (k : Int), if (cnt a k).2.2 = 32 then (k : Int) else (cnt a k).2.2)) := Lib.hid rfl
      generalize cnt a k = c at *
      obtain ⟨s, hi, lo⟩ := c
      simp only at c1 c2 HS ⊢
      have ek : ((k : Int)).toNat = k := by omega
      by_cases hbit : a / 2 ^ k % 2 = 0
      · have hb : (a / 2 ^ k % 2 == 0) = true := by simp [hbit]
        have Hbit := Lib.hid hbit
        clear hbit
        go_wp2
        go_round
        case rel => exact ⟨k + 1, by omega, by go_num, by rw [HS.out, if_pos Hbit.out], by rw [HS.out, if_pos Hbit.out], by rw [HS.out, if_pos Hbit.out]⟩
        case measure => simp [intOf]; omega
      · have hb : (a / 2 ^ k % 2 == 0) = false := by simp [hbit]
        have Hbit := Lib.hid hbit
        clear hbit
        by_cases hlo : lo = 32
        · have hl : (lo == 32) = true := by simp [hlo]
          have Hlo := Lib.hid hlo
          clear hlo
          go_wp2
          go_round
          case rel => exact ⟨k + 1, by omega, by go_num, by rw [HS.out, if_neg Hbit.out], by rw [HS.out, if_neg Hbit.out], by rw [HS.out, if_neg Hbit.out]; simp only [if_pos Hlo.out]⟩
          case measure => simp [intOf]; omega
        · have hl : (lo == 32) = false := by simp [hlo]
          have Hlo := Lib.hid hlo
          clear hlo
          go_wp2
          go_round
          case rel => exact ⟨k + 1, by omega, by go_num, by rw [HS.out, if_neg Hbit.out], by rw [HS.out, if_neg Hbit.out], by rw [HS.out, if_neg Hbit.out]; simp only [if_neg Hlo.out]⟩
          case measure => simp [intOf]; omega
    · obtain rfl : k = 32 := by omega
      go_wp2
      go_ret3
      exact ⟨rfl, rfl⟩
set_option maxHeartbeats 400000 in
theorem rcount_any (a : Int) (w : World) (ha : 0 ≤ a) (ha' : a < 4294967296) :
    Calls Try.prog 35 #[.int .u32 a] w fun e w' => e = .returned (.tuple #[.int .i64 (cnt a 32).1, .int .i64 (cnt a 32).2.1, .int .i64 (cnt a 32).2.2]) ∧ w = w' := by
  go_enter Try.func35, Try.ntmps35
  go_wp2
  go_loop [5, 6, 7, 8] (fun s hi lo i => ∃ k : Nat, k ≤ 32 ∧ i = .int .i64 k ∧ s = .int .i64 (cnt a k).1 ∧ hi = .int .i64 (cnt a k).2.1 ∧ lo = .int .i64 (cnt a k).2.2) (fun _ _ _ i => 32 - (intOf i).toNat)
  case atStart => exact ⟨0, by omega, rfl, rfl, rfl, rfl⟩
  case round =>
    obtain ⟨k, hk, rfl, rfl, rfl, rfl⟩ := hrel
    by_cases hlt : k < 32
    · obtain ⟨b1, b2⟩ := shift_bd a k ha ha'
      obtain ⟨c1, c2⟩ := cnt_bd a k hk
      have HS : Hid (cnt a (k + 1) = if a / 2 ^ k % 2 = 0 then cnt a k else ((cnt a k).1 + 1, 31 - (k : Int), if (cnt a k).2.2 = 32 then (k : Int) else (cnt a k).2.2)) := Lib.hid rfl
      generalize cnt a k = c at *
      obtain ⟨s, hi, lo⟩ := c
      simp only at c1 c2 HS ⊢
      have ek : ((k : Int)).toNat = k := by omega
      by_cases hbit : a / 2 ^ k % 2 = 0
      · have hb : (a / 2 ^ k % 2 == 1) = false := by simp [hbit]
        have Hbit := Lib.hid hbit
        clear hbit
        go_wp2
        go_round
        case rel => exact ⟨k + 1, by omega, by go_num, by rw [HS.out, if_pos Hbit.out], by rw [HS.out, if_pos Hbit.out], by rw [HS.out, if_pos Hbit.out]⟩
        case measure => simp [intOf]; omega
      · have hb : (a / 2 ^ k % 2 == 1) = true := by simp; omega
        have Hbit := Lib.hid hbit
        clear hbit
        by_cases hlo : lo = 32
        · have hl : (lo == 32) = true := by simp [hlo]
          have Hlo := Lib.hid hlo
          clear hlo
          go_wp2
          go_round
          case rel => exact ⟨k + 1, by omega, by go_num, by rw [HS.out, if_neg Hbit.out], by rw [HS.out, if_neg Hbit.out], by rw [HS.out, if_neg Hbit.out]; simp only [if_pos Hlo.out]⟩
          case measure => simp [intOf]; omega
        · have hl : (lo == 32) = false := by simp [hlo]
          have Hlo := Lib.hid hlo
          clear hlo
          go_wp2
          go_round
          case rel => exact ⟨k + 1, by omega, by go_num, by rw [HS.out, if_neg Hbit.out], by rw [HS.out, if_neg Hbit.out], by rw [HS.out, if_neg Hbit.out]; simp only [if_neg Hlo.out]⟩
          case measure => simp [intOf]; omega
    · obtain rfl : k = 32 := by omega
      go_wp2
      go_ret3
      exact ⟨rfl, rfl⟩
end Go.Proofs.Ytinjfmcmjhehoaa.wordShifts
