/-
  Plain laws of values: which values are of a type, what a number becomes as one of a type. No program in sight.
-/
import Derived.Test.YtejhphnlickjlaaDoorTyPlain
namespace Go.Proofs.YtejhphnlickjlaaDoor.T
set_option linter.unusedVariables false
def bitsT (l : List Int) : Nat := if l = [99] then 8 else if l = [115] then 16 else if l = [105] ∨ l = [117] then 32 else 0
def wrapT (l : List Int) (n : Int) : Int := if l = [117] then n % 4294967296 else (n + 2 ^ (bitsT l - 1)) % 2 ^ bitsT l - 2 ^ (bitsT l - 1)
open Classical in
noncomputable def formT (l : List Int) : Bool := decide (l.length ≤ 65536 ∧ Ty false l [])
noncomputable def ptrT (l : List Int) : Bool := decide (l.head? = some 112) && formT l
noncomputable def codeT (l : List Int) : Bool := ptrT l && decide (l[1]? = some 102)
theorem bits_cases (l : List Int) : bitsT l = 0 ∨ bitsT l = 8 ∨ bitsT l = 16 ∨ bitsT l = 32 := by
  unfold bitsT
  split
  · exact .inr (.inl rfl)
  · split
    · exact .inr (.inr (.inl rfl))
    · split
      · exact .inr (.inr (.inr rfl))
      · exact .inl rfl
theorem bits_one {l : List Int} (h : bitsT l ≠ 0) : l = [99] ∨ l = [115] ∨ l = [105] ∨ l = [117] := by
  unfold bitsT at h
  split at h
  · exact .inl ‹_›
  · split at h
    · exact .inr (.inl ‹_›)
    · split at h
      · rename_i h3
        rcases h3 with h3 | h3
        · exact .inr (.inr (.inl h3))
        · exact .inr (.inr (.inr h3))
      · exact absurd rfl h
theorem ty_p_alone (r : List Int) : ¬ Ty false [112] r := fun h => (ty_ptr h).ne rfl
theorem ptr_len {l : List Int} (h : ptrT l = true) : 2 ≤ l.length := by
  unfold ptrT formT at h
  simp only [Bool.and_eq_true, decide_eq_true_eq] at h
  match l, h with
  | [], h => simp at h
  | [c], h =>
    have e : c = 112 := by simpa using h.1
    subst e
    exact absurd h.2.2 (ty_p_alone _)
  | _ :: _ :: _, _ => simp
theorem ptr_bits {l : List Int} (h : ptrT l = true) : bitsT l = 0 := by
  have := ptr_len h
  rcases bits_cases l with h0 | h0
  · exact h0
  · exfalso
    have hb : bitsT l ≠ 0 := by omega
    rcases bits_one hb with e | e | e | e <;> (subst e; simp at this)
def numB (l : List Int) (i o : Int) : Bool := decide (bitsT l ≠ 0 ∧ o = 0 ∧ wrapT l i = i)
noncomputable def ofT (l : List Int) (k i o : Int) : Bool :=
  (decide (bitsT l ≠ 0) || ptrT l) &&
    (if k = 0 then decide (i = 0 ∧ o = 0) else if k = 1 then numB l i o else if k = 3 then ptrT l && decide (i = 0 ∧ o = 0)
     else if k = 2 then ptrT l && !codeT l && decide (0 ≤ i ∧ 0 ≤ o) else if k = 4 then codeT l && decide (0 ≤ i ∧ o = 0) else false)
theorem wrap_bd {l : List Int} (h : bitsT l ≠ 0) (n : Int) : -2147483648 ≤ wrapT l n ∧ wrapT l n ≤ 4294967295 := by
  unfold wrapT
  rcases bits_one h with e | e | e | e <;> subst e
  · rw [if_neg (by decide), show bitsT [99] = 8 from rfl]
    simp only [Nat.reduceSub, Int.reducePow]; omega
  · rw [if_neg (by decide), show bitsT [115] = 16 from rfl]
    simp only [Nat.reduceSub, Int.reducePow]; omega
  · rw [if_neg (by decide), show bitsT [105] = 32 from rfl]
    simp only [Nat.reduceSub, Int.reducePow]; omega
  · rw [if_pos rfl]; omega
/-- the bounds of a whole-number type -/
def lowT (l : List Int) : Int := if l = [117] then 0 else -2 ^ (bitsT l - 1)
def topT (l : List Int) : Int := if l = [117] then 4294967295 else 2 ^ (bitsT l - 1) - 1
theorem wrap_fix {l : List Int} (h : bitsT l ≠ 0) (n : Int) : wrapT l n = n ↔ lowT l ≤ n ∧ n ≤ topT l := by
  unfold wrapT lowT topT
  rcases bits_one h with e | e | e | e <;> subst e
  · rw [if_neg (by decide), if_neg (by decide), if_neg (by decide), show bitsT [99] = 8 from rfl]
    simp only [Nat.reduceSub, Int.reducePow]; omega
  · rw [if_neg (by decide), if_neg (by decide), if_neg (by decide), show bitsT [115] = 16 from rfl]
    simp only [Nat.reduceSub, Int.reducePow]; omega
  · rw [if_neg (by decide), if_neg (by decide), if_neg (by decide), show bitsT [105] = 32 from rfl]
    simp only [Nat.reduceSub, Int.reducePow]; omega
  · rw [if_pos rfl, if_pos rfl, if_pos rfl]; omega
end Go.Proofs.YtejhphnlickjlaaDoor.T
