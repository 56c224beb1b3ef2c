/-
  Contracts of wrap, number, Int of package value, and of number, bound, Int of the reference. No condition beyond the ranges of numbers.
-/
import Derived.WalkKit
import Derived.Test.YtejhphnlickjlaaDoorVaB
import Derived.IntWalk
import Derived.Laws.ResultCell
set_option linter.unusedVariables false
set_option linter.unusedSimpArgs false
namespace Go.Proofs.YtejhphnlickjlaaDoor.W
open Go.RowKit
set_option linter.unusedVariables false

theorem and31 (n : Int) (hn : 0 ≤ n) (hn' : n < 4294967296) : bits .and .u32 n 31 = n % 32 := by
  rw [u32_and n 31 hn hn' (by omega) (by omega)]
  have : (31:Int).toNat = 31 := rfl
  rw [this, nat_mask5]; omega
theorem and1 (n : Int) (hn : 0 ≤ n) (hn' : n < 4294967296) : bits .and .u32 n 1 = n % 2 := by
  rw [u32_and n 1 hn hn' (by omega) (by omega)]
  have : (1:Int).toNat = 1 := rfl
  rw [this, nat_mask1]; omega

def sgn (a : Int) : Int := if a < 2147483648 then a else a - 4294967296
def shl (a n : Int) : Int := a * 2 ^ (n % 32).toNat % 4294967296
def shr (a n : Int) : Int := sgn a / 2 ^ (n % 32).toNat % 4294967296
def shru (a n : Int) : Int := a / 2 ^ (n % 32).toNat
def rot (a n : Int) : Int := bits .or .u32 (a * 2 ^ (n % 32).toNat % 4294967296) (a / 2 ^ (32 - n % 32).toNat)

theorem wrap32_sgn (a : Int) (h : 0 ≤ a) (h' : a < 4294967296) : wrap32 a = sgn a := by
  unfold wrap32 sgn; split <;> omega
theorem rot_zero (a n : Int) (h : 0 ≤ a) (h' : a < 4294967296) (hn : n % 32 = 0) : rot a n = a := by
  unfold rot
  rw [hn]
  have e0 : (0 : Int).toNat = 0 := rfl
  have e1 : ((32 : Int) - 0).toNat = 32 := rfl
  rw [e0, e1]
  have e2 : a * 2 ^ 0 % 4294967296 = a := by simp; omega
  have e3 : a / 2 ^ 32 = 0 := by omega
  rw [e2, e3, u32_or a 0 h h' (by omega) (by omega)]
  have : (0:Int).toNat = 0 := rfl
  rw [this, Nat.or_zero]; omega

/-- the powers up to 32 as numerals -/
theorem cases32 (n : Int) (h1 : 1 ≤ n) (h2 : n ≤ 32) {P : Int → Prop} (h : ∀ k : Nat, k < 32 → P ((k : Int) + 1)) : P n := by
  have := h (n - 1).toNat (by omega)
  have e : ((n - 1).toNat : Int) + 1 = n := by omega
  rw [e] at this; exact this

def zext (a n : Int) : Int := a % 2 ^ n.toNat
def ext (a n : Int) : Int := if zext a n < 2 ^ (n.toNat - 1) then zext a n else (zext a n - 2 ^ n.toNat) % 4294967296

theorem zext_eq (a n : Int) (h : 0 ≤ a) (h' : a < 4294967296) (h1 : 1 ≤ n) (h2 : n ≤ 32) :
    a * 2 ^ (32 - n).toNat % 4294967296 / 2 ^ (32 - n).toNat = zext a n := by
  unfold zext
  refine cases32 n h1 h2 (P := fun n => a * 2 ^ (32 - n).toNat % 4294967296 / 2 ^ (32 - n).toNat = a % 2 ^ n.toNat) ?_
  intro k hk
  have e1 : ((k : Int) + 1).toNat = k + 1 := by omega
  have e2 : (32 - ((k : Int) + 1)).toNat = 31 - k := by omega
  rw [e1, e2]
  clear e1 e2
  match k, hk with
  | k + 32, h => exact absurd h (by omega)
  | 0, _ | 1, _ | 2, _ | 3, _ | 4, _ | 5, _ | 6, _ | 7, _ | 8, _ | 9, _ | 10, _ | 11, _ | 12, _ | 13, _ | 14, _ | 15, _ | 16, _ | 17, _ | 18, _ | 19, _
  | 20, _ | 21, _ | 22, _ | 23, _ | 24, _ | 25, _ | 26, _ | 27, _ | 28, _ | 29, _ | 30, _ | 31, _ => simp only [Nat.reduceSub, Nat.reduceAdd, Int.reducePow]; omega

theorem ext_eq (a n : Int) (h : 0 ≤ a) (h' : a < 4294967296) (h1 : 1 ≤ n) (h2 : n ≤ 32) :
    wrap32 (a * 2 ^ (32 - n).toNat % 4294967296) / 2 ^ (32 - n).toNat % 4294967296 = ext a n := by
  unfold ext zext wrap32
  refine cases32 n h1 h2 (P := fun n => ((a * 2 ^ (32 - n).toNat % 4294967296 + 2147483648) % 4294967296 - 2147483648) / 2 ^ (32 - n).toNat % 4294967296 = if a % 2 ^ n.toNat < 2 ^ (n.toNat - 1) then a % 2 ^ n.toNat else (a % 2 ^ n.toNat - 2 ^ n.toNat) % 4294967296) ?_
  intro k hk
  have e1 : ((k : Int) + 1).toNat = k + 1 := by omega
  have e2 : (32 - ((k : Int) + 1)).toNat = 31 - k := by omega
  rw [e1, e2]
  clear e1 e2
  match k, hk with
  | k + 32, h => exact absurd h (by omega)
  | 0, _ | 1, _ | 2, _ | 3, _ | 4, _ | 5, _ | 6, _ | 7, _ | 8, _ | 9, _ | 10, _ | 11, _ | 12, _ | 13, _ | 14, _ | 15, _ | 16, _ | 17, _ | 18, _ | 19, _
  | 20, _ | 21, _ | 22, _ | 23, _ | 24, _ | 25, _ | 26, _ | 27, _ | 28, _ | 29, _ | 30, _ | 31, _ =>
    simp only [Nat.reduceSub, Nat.reduceAdd, Int.reducePow]; split <;> omega

theorem pow_le (n : Int) (h1 : 1 ≤ n) (h2 : n ≤ 32) : (1:Int) ≤ 2 ^ (n.toNat - 1) ∧ (2:Int) ^ (n.toNat - 1) ≤ 2147483648 ∧ (2:Int) ^ n.toNat = 2 * 2 ^ (n.toNat - 1) := by
  refine cases32 n h1 h2 (P := fun n => (1:Int) ≤ 2 ^ (n.toNat - 1) ∧ (2:Int) ^ (n.toNat - 1) ≤ 2147483648 ∧ (2:Int) ^ n.toNat = 2 * 2 ^ (n.toNat - 1)) ?_
  intro k hk
  have e1 : ((k : Int) + 1).toNat = k + 1 := by omega
  rw [e1]
  clear e1
  match k, hk with
  | k + 32, h => exact absurd h (by omega)
  | 0, _ | 1, _ | 2, _ | 3, _ | 4, _ | 5, _ | 6, _ | 7, _ | 8, _ | 9, _ | 10, _ | 11, _ | 12, _ | 13, _ | 14, _ | 15, _ | 16, _ | 17, _ | 18, _ | 19, _
  | 20, _ | 21, _ | 22, _ | 23, _ | 24, _ | 25, _ | 26, _ | 27, _ | 28, _ | 29, _ | 30, _ | 31, _ => simp

def fits (m n : Int) : Bool := decide (1 ≤ n) && decide (n ≤ 32) && decide (-2 ^ (n.toNat - 1) ≤ m) && decide (m < 2 ^ (n.toNat - 1))

/-- what has been counted of the lowest k bits: how many are set, 31 less the highest one set (32: none), the lowest one set (32: none) -/
def cnt (a : Int) : Nat → Int × Int × Int
  | 0 => (0, 32, 32)
  | k + 1 =>
    let c := cnt a k
    if a / 2 ^ k % 2 = 0 then c else (c.1 + 1, 31 - (k : Int), if c.2.2 = 32 then (k : Int) else c.2.2)
theorem cnt_bd (a : Int) (k : Nat) (hk : k ≤ 32) : 0 ≤ (cnt a k).1 ∧ (cnt a k).1 ≤ k := by
  induction k with
  | zero => simp [cnt]
  | succ k ih =>
    have := ih (by omega)
    simp only [cnt]
    split <;> simp <;> omega
end Go.Proofs.YtejhphnlickjlaaDoor.W
namespace Go.Proofs.YtejhphnlickjlaaDoor.ty
open Go.ChangeShapes Go.WideShapes Go.RowKit
open M T W
set_option linter.unusedVariables false
theorem own : ownKnob Tryd.prog.godebug = none := by kernel_rfl
theorem of_any (n : Int) (w : World) :
    Calls Tryd.prog 52 #[.int .i64 n] w fun e w' => e = .returned (.int .u32 (n % 4294967296)) ∧ w = w' := by
  go_enter Tryd.func52, Tryd.ntmps52
  go_wp2
  go_ret
  exact ⟨rfl, rfl⟩
theorem rof_any (n : Int) (w : World) :
    Calls Tryd.prog 54 #[.int .i64 n] w fun e w' => e = .returned (.int .u32 (n % 4294967296)) ∧ w = w' := by
  go_enter Tryd.func54, Tryd.ntmps54
  go_wp2
  go_ret
  exact ⟨rfl, rfl⟩
theorem rzext_yes (a n : Int) (w : World) (ha : 0 ≤ a) (ha' : a < 4294967296) (h1 : 1 ≤ n) (h2 : n ≤ 32) :
    Calls Tryd.prog 88 #[.int .u32 a, .int .i64 n] w fun e w' => e = .returned (.tuple #[.int .u32 (zext a n), .int .i64 0]) ∧ w = w' := by
  by_cases h : n = 32
  · subst h
    have hz : zext a 32 = a := by
      have e1 : (32 : Int).toNat = 32 := rfl
      unfold zext; rw [e1]; omega
    rw [hz]
    go_enter Tryd.func88, Tryd.ntmps88
    go_wp2
    go_ret2
    exact ⟨rfl, rfl⟩
  · have hb : (n == 32) = false := by simp [h]
    obtain ⟨p1, p2, p3⟩ := pow_le n h1 h2
    have hz : zext a n = a % 2 ^ n.toNat := rfl
    rw [hz]
    clear hz
    have p4 : (2 : Int) ^ n.toNat ≤ 2147483648 := by
      have h := (pow_le (n + 1) (by omega) (by omega)).2.1
      have e : (n + 1).toNat - 1 = n.toNat := by omega
      rwa [e] at h
    generalize ht : (2 : Int) ^ n.toNat = t at *
    have q1 : 1 ≤ t := by omega
    have e2 : t % 4294967296 = t := by omega
    clear p1 p2 p3
    have e3 : ¬ t = 0 := by omega
    go_enter Tryd.func88, Tryd.ntmps88
    go_wp2
    go_ret2
    exact ⟨rfl, rfl⟩
theorem ext_yes (a n : Int) (w : World) (ha : 0 ≤ a) (ha' : a < 4294967296) (h1 : 1 ≤ n) (h2 : n ≤ 32) :
    Calls Tryd.prog 74 #[.int .u32 a, .int .i64 n] w fun e w' => e = .returned (.tuple #[.int .u32 (ext a n), .int .i64 0]) ∧ w = w' := by
  rw [← ext_eq a n ha ha' h1 h2]
  go_enter Tryd.func74, Tryd.ntmps74
  go_wp2
  go_ret2
  exact ⟨rfl, rfl⟩
theorem rext_yes (a n : Int) (w : World) (ha : 0 ≤ a) (ha' : a < 4294967296) (h1 : 1 ≤ n) (h2 : n ≤ 32) :
    Calls Tryd.prog 77 #[.int .u32 a, .int .i64 n] w fun e w' => e = .returned (.tuple #[.int .u32 (ext a n), .int .i64 0]) ∧ w = w' := by
  obtain ⟨p1, p2, p3⟩ := pow_le n h1 h2
  have b1 : 0 ≤ zext a n := Int.emod_nonneg _ (by omega)
  have b2 : zext a n < 2 ^ n.toNat := Int.emod_lt_of_pos _ (by omega)
  have Hx : Hid (ext a n = if zext a n < 2 ^ (n.toNat - 1) then zext a n else (zext a n - 2 ^ n.toNat) % 4294967296) := Lib.hid rfl
  generalize ext a n = x at *
  have hz := rzext_yes a n w ha ha' h1 h2
  generalize zext a n = z at *
  have Hz := Lib.hid hz
  clear hz
  by_cases h : n = 32
  · subst h
    have Hb : Hid (x = z) := by
      have e1 : (32 : Int).toNat - 1 = 31 := rfl
      have e2 : (32 : Int).toNat = 32 := rfl
      rw [e1, e2] at Hx
      have := Hx.out
      refine Lib.hid ?_
      rw [this]; split
      · rfl
      · rw [e2] at b2; omega
    rw [Hb.out]
    clear Hb Hx
    go_enter Tryd.func77, Tryd.ntmps77
    go_wp2_with (go_at_call 88; refine Hz.out.mono ?_; rintro e w' ⟨rfl, rfl⟩)
    go_ret2
    exact ⟨rfl, rfl⟩
  · have hb : (n == 32) = false := by simp [h]
    have p4 : (2 : Int) ^ n.toNat ≤ 2147483648 := by
      have h := (pow_le (n + 1) (by omega) (by omega)).2.1
      have e : (n + 1).toNat - 1 = n.toNat := by omega
      rwa [e] at h
    generalize ht : (2 : Int) ^ n.toNat = t at *
    generalize hs : (2 : Int) ^ (n.toNat - 1) = s at *
    have e2 : t % 4294967296 = t := by omega
    have e2' : s % 4294967296 = s := by omega
    have e3 : wrap64 t = t := IntWalk.wrap64_in _ (by omega)
    have q3 : t ≤ 4294967296 := by omega
    have q4 : 0 ≤ t := by omega
    clear p3
    have hw : wrap64 (z - t) = z - t := IntWalk.wrap64_in _ (by omega)
    by_cases c : z < s
    · rw [Hx.out, if_pos c]
      clear Hx
      go_enter Tryd.func77, Tryd.ntmps77
      go_wp2_with (go_at_call 88; refine Hz.out.mono ?_; rintro e w' ⟨rfl, rfl⟩)
      go_ret2
      exact ⟨rfl, rfl⟩
    · rw [Hx.out, if_neg c]
      clear Hx
      go_enter Tryd.func77, Tryd.ntmps77
      go_wp2_with (first | (go_at_call 88; refine Hz.out.mono ?_; rintro e w' ⟨rfl, rfl⟩) | (go_at_call 54; refine (rof_any _ _).mono ?_; rintro e w' ⟨rfl, rfl⟩))
      go_ret2
      exact ⟨rfl, rfl⟩
theorem signed_word (a : Int) (w : World) (ha : 0 ≤ a) (ha' : a < 4294967296) :
    Calls Tryd.prog 75 #[.int .u32 a] w fun e w' => e = .returned (.int .i64 (sgn a)) ∧ w = w' := by
  have hw := wrap32_sgn a ha ha'
  by_cases h : a < 2147483648
  · have hx : sgn a = a := by unfold sgn; rw [if_pos h]
    rw [hx] at hw ⊢
    clear hx
    go_enter Tryd.func75, Tryd.ntmps75
    go_wp2
    go_ret
    exact ⟨rfl, rfl⟩
  · have hx : sgn a = a - 4294967296 := by unfold sgn; rw [if_neg h]
    rw [hx] at hw ⊢
    clear hx
    go_enter Tryd.func75, Tryd.ntmps75
    go_wp2
    go_ret
    exact ⟨rfl, rfl⟩
theorem rsigned_word (a : Int) (w : World) (ha : 0 ≤ a) (ha' : a < 4294967296) :
    Calls Tryd.prog 78 #[.int .u32 a] w fun e w' => e = .returned (.int .i64 (sgn a)) ∧ w = w' := by
  have hw := wrap32_sgn a ha ha'
  by_cases h : a < 2147483648
  · have hx : sgn a = a := by unfold sgn; rw [if_pos h]
    rw [hx] at hw ⊢
    clear hx
    go_enter Tryd.func78, Tryd.ntmps78
    go_wp2
    go_ret
    exact ⟨rfl, rfl⟩
  · have hx : sgn a = a - 4294967296 := by unfold sgn; rw [if_neg h]
    rw [hx] at hw ⊢
    clear hx
    go_enter Tryd.func78, Tryd.ntmps78
    go_wp2
    go_ret
    exact ⟨rfl, rfl⟩
end Go.Proofs.YtejhphnlickjlaaDoor.ty
namespace Go.Proofs.YtejhphnlickjlaaDoor.ty
open Go.ChangeShapes Go.WideShapes Go.RowKit
open M T W
set_option linter.unusedVariables false
theorem sgn_ext8 (n : Int) : sgn (ext (n % 4294967296) 8) = (n + 128) % 256 - 128 := by
  unfold sgn ext zext
  simp only [show (8 : Int).toNat = 8 from rfl, Nat.reduceSub, Int.reducePow]
  split <;> (try split) <;> omega
theorem sgn_ext16 (n : Int) : sgn (ext (n % 4294967296) 16) = (n + 32768) % 65536 - 32768 := by
  unfold sgn ext zext
  simp only [show (16 : Int).toNat = 16 from rfl, Nat.reduceSub, Int.reducePow]
  split <;> (try split) <;> omega
theorem sgn_ext32 (n : Int) : sgn (ext (n % 4294967296) 32) = (n + 2147483648) % 4294967296 - 2147483648 := by
  unfold sgn ext zext
  simp only [show (32 : Int).toNat = 32 from rfl, Nat.reduceSub, Int.reducePow]
  split <;> (try split) <;> omega
theorem wrap_words {l : List Int} (h : bitsT l ≠ 0) (hu : l ≠ [117]) (n : Int) : wrapT l n = sgn (ext (n % 4294967296) (bitsT l : Nat)) := by
  unfold wrapT
  rw [if_neg hu]
  rcases bits_one h with e | e | e | e
  · subst e
    rw [show bitsT [99] = 8 from rfl]
    simp only [Nat.reduceSub, Int.reducePow]
    exact (sgn_ext8 n).symm
  · subst e
    rw [show bitsT [115] = 16 from rfl]
    simp only [Nat.reduceSub, Int.reducePow]
    exact (sgn_ext16 n).symm
  · subst e
    rw [show bitsT [105] = 32 from rfl]
    simp only [Nat.reduceSub, Int.reducePow]
    exact (sgn_ext32 n).symm
  · exact absurd e hu
theorem wrap_u {l : List Int} (hu : l = [117]) (n : Int) : wrapT l n = n % 4294967296 := by unfold wrapT; rw [if_pos hu]
theorem ext_bd (a n : Int) (ha : 0 ≤ a) (ha' : a < 4294967296) (h1 : 1 ≤ n) (h2 : n ≤ 32) : 0 ≤ ext a n ∧ ext a n < 4294967296 := by
  obtain ⟨p1, p2, p3⟩ := pow_le n h1 h2
  have b1 : 0 ≤ zext a n := Int.emod_nonneg _ (by omega)
  have b2 : zext a n < 2 ^ n.toNat := Int.emod_lt_of_pos _ (by omega)
  unfold ext
  split <;> omega
theorem bits_bd (l : List Int) (h : bitsT l ≠ 0) : (1 : Int) ≤ (bitsT l : Nat) ∧ ((bitsT l : Nat) : Int) ≤ 32 := by
  rcases bits_cases l with e | e | e | e <;> omega
/-- a value, as it is handed on -/
def vT (k i o : Int) : Value := .agg #[.int .i64 k, .int .i64 i, .int .i64 o]
theorem wrap_any (s : ByteArray) (n : Int) (w : World) (hb : bitsT (nums s) ≠ 0) : Calls Tryd.prog 40 #[.string s, .int .i64 n] w fun e w' => e = .returned (.int .i64 (wrapT (nums s) n)) ∧ w = w' := by
  have a4 := toList_one s 117 117 rfl
  have HO := Lib.hid (of_any n)
  by_cases hu : nums s = [117]
  · rw [wrap_u hu]
    rw [decide_eq_true hu] at a4
    have q0 : 0 ≤ n % 4294967296 := by omega
    have q1 : n % 4294967296 < 4294967296 := by omega
    clear hu hb
    generalize n % 4294967296 = a at *
    go_enter Tryd.func40, Tryd.ntmps40
    go_wp2_with (go_at_call 52; refine (HO.out _).mono ?_; rintro e w1 ⟨rfl, rfl⟩)
    go_ret
    exact ⟨rfl, rfl⟩
  · rw [wrap_words hb hu]
    rw [decide_eq_false hu] at a4
    have q0 : 0 ≤ n % 4294967296 := by omega
    have q1 : n % 4294967296 < 4294967296 := by omega
    generalize n % 4294967296 = a at *
    obtain ⟨p1, p2⟩ := bits_bd _ hb
    obtain ⟨r0, r1⟩ := ext_bd a (bitsT (nums s) : Nat) q0 q1 p1 p2
    have HB := Lib.hid (bits45_any s)
    have HE := Lib.hid (fun W => ext_yes a (bitsT (nums s) : Nat) W q0 q1 p1 p2)
    have HS := Lib.hid (fun W => signed_word (ext a (bitsT (nums s) : Nat)) W r0 r1)
    clear hu hb
    generalize ext a (bitsT (nums s) : Nat) = x at *
    generalize bitsT (nums s) = m at *
    go_enter Tryd.func40, Tryd.ntmps40
    go_wp2_with (first
      | (go_at_call 52; refine (HO.out _).mono ?_; rintro e w1 ⟨rfl, rfl⟩)
      | (go_at_call 45; refine (HB.out _).mono ?_; rintro e w2 ⟨rfl, rfl⟩)
      | (go_at_call 74; refine (HE.out _).mono ?_; rintro e w3 ⟨rfl, rfl⟩)
      | (go_at_call 75; refine (HS.out _).mono ?_; rintro e w4 ⟨rfl, rfl⟩))
    go_ret
    exact ⟨rfl, rfl⟩
theorem results_cell1 {fn : Func} {p : Tmp} {ty : TypeId} (h : fn.results = #[.cell p ty]) (tmps : Array Value) (P : Program) (w : World) :
    (results fn tmps).run P w = ((asAddr (tmps.getD p undef)).run P w).andThen fun a w₁ => (loadVar ty a).run P w₁ := by
  simp only [results, h]
  simp [Sem.run_bind, Result.andThen]
theorem number_of (n : Int) (w : World) : Calls Tryd.prog 46 #[.int .i64 n] w fun e w' => e = .returned (vT 1 n 0) ∧ Below w.heap.size w w' := by
  unfold vT
  go_enter Tryd.func46, Tryd.ntmps46
  go_wp2
  try simp only [Exit.inBlock, Exit.then]
  refine bodyPost_ret (v := .agg #[.int .i64 1, .int .i64 n, .int .i64 0]) (by rw [results_cell1 rfl]; go_simp) rfl ?_
  exact ⟨rfl, (Below.refl _ _).alloc (Nat.le_refl _) _⟩
end Go.Proofs.YtejhphnlickjlaaDoor.ty
