/-
  Plain laws on words: what the shifts, rotations, extensions of word and of the reference come to, as integers. No program in sight.
-/
import Derived.WalkKit
namespace Go.Proofs.YtejhphnlickjlaaDoor.W
open Go.RowKit
set_option linter.unusedVariables false

theorem and31 (n : Int) (hn : 0 ≤ n) (hn' : n < 4294967296) : bits .and .u32 n 31 = n % 32 := by
  rw [u32_and n 31 hn hn' (by omega) (by omega)]
  have : (31:Int).toNat = 31 := rfl
  rw [this, nat_mask5]; omega
theorem and1 (n : Int) (hn : 0 ≤ n) (hn' : n < 4294967296) : bits .and .u32 n 1 = n % 2 := by
  rw [u32_and n 1 hn hn' (by omega) (by omega)]
  have : (1:Int).toNat = 1 := rfl
  rw [this, nat_mask1]; omega

def sgn (a : Int) : Int := if a < 2147483648 then a else a - 4294967296
def shl (a n : Int) : Int := a * 2 ^ (n % 32).toNat % 4294967296
def shr (a n : Int) : Int := sgn a / 2 ^ (n % 32).toNat % 4294967296
def shru (a n : Int) : Int := a / 2 ^ (n % 32).toNat
def rot (a n : Int) : Int := bits .or .u32 (a * 2 ^ (n % 32).toNat % 4294967296) (a / 2 ^ (32 - n % 32).toNat)

theorem wrap32_sgn (a : Int) (h : 0 ≤ a) (h' : a < 4294967296) : wrap32 a = sgn a := by
  unfold wrap32 sgn; split <;> omega
theorem rot_zero (a n : Int) (h : 0 ≤ a) (h' : a < 4294967296) (hn : n % 32 = 0) : rot a n = a := by
  unfold rot
  rw [hn]
  have e0 : (0 : Int).toNat = 0 := rfl
  have e1 : ((32 : Int) - 0).toNat = 32 := rfl
  rw [e0, e1]
  have e2 : a * 2 ^ 0 % 4294967296 = a := by simp; omega
  have e3 : a / 2 ^ 32 = 0 := by omega
  rw [e2, e3, u32_or a 0 h h' (by omega) (by omega)]
  have : (0:Int).toNat = 0 := rfl
  rw [this, Nat.or_zero]; omega

/-- the powers up to 32 as numerals -/
theorem cases32 (n : Int) (h1 : 1 ≤ n) (h2 : n ≤ 32) {P : Int → Prop} (h : ∀ k : Nat, k < 32 → P ((k : Int) + 1)) : P n := by
  have := h (n - 1).toNat (by omega)
  have e : ((n - 1).toNat : Int) + 1 = n := by omega
  rw [e] at this; exact this

def zext (a n : Int) : Int := a % 2 ^ n.toNat
def ext (a n : Int) : Int := if zext a n < 2 ^ (n.toNat - 1) then zext a n else (zext a n - 2 ^ n.toNat) % 4294967296

theorem zext_eq (a n : Int) (h : 0 ≤ a) (h' : a < 4294967296) (h1 : 1 ≤ n) (h2 : n ≤ 32) :
    a * 2 ^ (32 - n).toNat % 4294967296 / 2 ^ (32 - n).toNat = zext a n := by
  unfold zext
  refine cases32 n h1 h2 (P := fun n => a * 2 ^ (32 - n).toNat % 4294967296 / 2 ^ (32 - n).toNat = a % 2 ^ n.toNat) ?_
  intro k hk
  have e1 : ((k : Int) + 1).toNat = k + 1 := by omega
  have e2 : (32 - ((k : Int) + 1)).toNat = 31 - k := by omega
  rw [e1, e2]
  clear e1 e2
  match k, hk with
  | k + 32, h => exact absurd h (by omega)
  | 0, _ | 1, _ | 2, _ | 3, _ | 4, _ | 5, _ | 6, _ | 7, _ | 8, _ | 9, _ | 10, _ | 11, _ | 12, _ | 13, _ | 14, _ | 15, _ | 16, _ | 17, _ | 18, _ | 19, _
  | 20, _ | 21, _ | 22, _ | 23, _ | 24, _ | 25, _ | 26, _ | 27, _ | 28, _ | 29, _ | 30, _ | 31, _ => simp only [Nat.reduceSub, Nat.reduceAdd, Int.reducePow]; omega

theorem ext_eq (a n : Int) (h : 0 ≤ a) (h' : a < 4294967296) (h1 : 1 ≤ n) (h2 : n ≤ 32) :
    wrap32 (a * 2 ^ (32 - n).toNat % 4294967296) / 2 ^ (32 - n).toNat % 4294967296 = ext a n := by
  unfold ext zext wrap32
  refine cases32 n h1 h2 (P := fun n => ((a * 2 ^ (32 - n).toNat % 4294967296 + 2147483648) % 4294967296 - 2147483648) / 2 ^ (32 - n).toNat % 4294967296 = if a % 2 ^ n.toNat < 2 ^ (n.toNat - 1) then a % 2 ^ n.toNat else (a % 2 ^ n.toNat - 2 ^ n.toNat) % 4294967296) ?_
  intro k hk
  have e1 : ((k : Int) + 1).toNat = k + 1 := by omega
  have e2 : (32 - ((k : Int) + 1)).toNat = 31 - k := by omega
  rw [e1, e2]
  clear e1 e2
  match k, hk with
  | k + 32, h => exact absurd h (by omega)
  | 0, _ | 1, _ | 2, _ | 3, _ | 4, _ | 5, _ | 6, _ | 7, _ | 8, _ | 9, _ | 10, _ | 11, _ | 12, _ | 13, _ | 14, _ | 15, _ | 16, _ | 17, _ | 18, _ | 19, _
  | 20, _ | 21, _ | 22, _ | 23, _ | 24, _ | 25, _ | 26, _ | 27, _ | 28, _ | 29, _ | 30, _ | 31, _ =>
    simp only [Nat.reduceSub, Nat.reduceAdd, Int.reducePow]; split <;> omega

theorem pow_le (n : Int) (h1 : 1 ≤ n) (h2 : n ≤ 32) : (1:Int) ≤ 2 ^ (n.toNat - 1) ∧ (2:Int) ^ (n.toNat - 1) ≤ 2147483648 ∧ (2:Int) ^ n.toNat = 2 * 2 ^ (n.toNat - 1) := by
  refine cases32 n h1 h2 (P := fun n => (1:Int) ≤ 2 ^ (n.toNat - 1) ∧ (2:Int) ^ (n.toNat - 1) ≤ 2147483648 ∧ (2:Int) ^ n.toNat = 2 * 2 ^ (n.toNat - 1)) ?_
  intro k hk
  have e1 : ((k : Int) + 1).toNat = k + 1 := by omega
  rw [e1]
  clear e1
  match k, hk with
  | k + 32, h => exact absurd h (by omega)
  | 0, _ | 1, _ | 2, _ | 3, _ | 4, _ | 5, _ | 6, _ | 7, _ | 8, _ | 9, _ | 10, _ | 11, _ | 12, _ | 13, _ | 14, _ | 15, _ | 16, _ | 17, _ | 18, _ | 19, _
  | 20, _ | 21, _ | 22, _ | 23, _ | 24, _ | 25, _ | 26, _ | 27, _ | 28, _ | 29, _ | 30, _ | 31, _ => simp

def fits (m n : Int) : Bool := decide (1 ≤ n) && decide (n ≤ 32) && decide (-2 ^ (n.toNat - 1) ≤ m) && decide (m < 2 ^ (n.toNat - 1))

/-- what has been counted of the lowest k bits: how many are set, 31 less the highest one set (32: none), the lowest one set (32: none) -/
def cnt (a : Int) : Nat → Int × Int × Int
  | 0 => (0, 32, 32)
  | k + 1 =>
    let c := cnt a k
    if a / 2 ^ k % 2 = 0 then c else (c.1 + 1, 31 - (k : Int), if c.2.2 = 32 then (k : Int) else c.2.2)
theorem cnt_bd (a : Int) (k : Nat) (hk : k ≤ 32) : 0 ≤ (cnt a k).1 ∧ (cnt a k).1 ≤ k := by
  induction k with
  | zero => simp [cnt]
  | succ k ih =>
    have := ih (by omega)
    simp only [cnt]
    split <;> simp <;> omega
end Go.Proofs.YtejhphnlickjlaaDoor.W
