/-
  Plain laws of texts: a text's bytes as numbers, and what is left of them from a place on. No program in sight.
-/
import Derived.WalkKit
import Derived.Laws.BytesArg
import Derived.Laws.Strings
import Derived.Lib.IndexLaws
set_option linter.unusedVariables false
set_option linter.unusedSimpArgs false
namespace Go.Proofs.YtejhphnlickjlaaDoor.T
set_option linter.unusedVariables false
def baseC (c : Int) : Bool := decide (c = 118 ∨ c = 99 ∨ c = 115 ∨ c = 105 ∨ c = 117 ∨ c = 106)
def isDigit (c : Int) : Bool := decide (48 ≤ c ∧ c ≤ 57)
def isLetter (c : Int) : Bool := decide ((97 ≤ c ∧ c ≤ 122) ∨ (65 ≤ c ∧ c ≤ 90) ∨ c = 95)
def numOf (d : List Int) : Int := d.foldl (fun n c => 10 * n + (c - 48)) 0
/-- digits: 0 itself, or without a 0 ahead, at most 15, at most the greatest number -/
def whole (d : List Int) : Bool := decide (d ≠ [] ∧ d.length ≤ 15 ∧ (1 < d.length → d.head? ≠ some 48) ∧ (∀ c ∈ d, isDigit c = true) ∧ numOf d ≤ 1099511627776)
def keys : List (List Int) := [[118, 111, 105, 100], [99, 104, 97, 114], [115, 104, 111, 114, 116], [105, 110, 116], [117, 110, 115, 105, 103, 110, 101, 100], [115, 116, 114, 117, 99, 116], [118, 111, 108, 97, 116, 105, 108, 101], [105, 102], [101, 108, 115, 101], [119, 104, 105, 108, 101], [100, 111], [102, 111, 114], [115, 119, 105, 116, 99, 104], [99, 97, 115, 101], [100, 101, 102, 97, 117, 108, 116], [98, 114, 101, 97, 107], [99, 111, 110, 116, 105, 110, 117, 101], [114, 101, 116, 117, 114, 110], [115, 105, 122, 101, 111, 102], [106, 109, 112, 95, 98, 117, 102]]
def wordB (w : List Int) : Bool := match w with | [] => false | c :: r => isLetter c && r.all fun c => isLetter c || isDigit c
def nameB (w : List Int) : Bool := decide (w.length ≤ 31) && wordB w && !keys.contains w
/-- false: a type's code stands at the head of l, and r is behind it; true: parameters and the bracket behind them -/
inductive Ty : Bool → List Int → List Int → Prop where
  | base {c : Int} {r : List Int} : baseC c = true → Ty false (c :: r) r
  | ptr {l r : List Int} : Ty false l r → Ty false (112 :: l) r
  | arr {d l r : List Int} : whole d = true → Ty false l r → Ty false (97 :: (d ++ 58 :: l)) r
  | struct {w r : List Int} : nameB w = true → Ty false (83 :: (w ++ 59 :: r)) r
  | fn0 {l r : List Int} : Ty false l r → Ty false (102 :: 40 :: 41 :: l) r
  | fn {l m r : List Int} : Ty true l m → Ty false m r → Ty false (102 :: 40 :: l) r
  | one {l r : List Int} : Ty false l (41 :: r) → Ty true l r
  | more {l m r : List Int} : Ty false l (44 :: m) → Ty true m r → Ty true l r
theorem split_unique {c : Int} {a b x y : List Int} (ha : ∀ z ∈ a, z ≠ c) (hb : ∀ z ∈ b, z ≠ c) (h : a ++ c :: x = b ++ c :: y) : a = b ∧ x = y := by
  induction a generalizing b with
  | nil =>
    cases b with
    | nil => simpa using h
    | cons z b => simp at h; exact absurd h.1.symm (hb z (by simp))
  | cons w a ih =>
    cases b with
    | nil => simp at h; exact absurd h.1 (ha w (by simp))
    | cons z b =>
      rw [List.cons_append, List.cons_append, List.cons.injEq] at h
      obtain ⟨h1, h2⟩ := ih (fun z hz => ha z (by simp [hz])) (fun z hz => hb z (by simp [hz])) h.2
      exact ⟨by rw [h.1, h1], h2⟩
theorem whole_digit {d : List Int} (h : whole d = true) : ∀ z ∈ d, z ≠ 58 := by
  intro z hz e
  have := (of_decide_eq_true h).2.2.2.1 z hz
  subst e
  revert this; decide
theorem name_letters {w : List Int} (h : nameB w = true) : ∀ z ∈ w, (isLetter z || isDigit z) = true := by
  intro z hz
  simp only [nameB, Bool.and_eq_true] at h
  have h2 := h.1.2
  cases w with
  | nil => cases hz
  | cons c r =>
    simp only [wordB, Bool.and_eq_true] at h2
    rcases List.mem_cons.1 hz with rfl | h3
    · rw [h2.1]; rfl
    · exact List.all_eq_true.1 h2.2 z h3
theorem name_semi {w : List Int} (h : nameB w = true) : ∀ z ∈ w, z ≠ 59 := by
  intro z hz e
  have := name_letters h z hz
  subst e
  revert this; decide
theorem Ty.ne {b : Bool} {l r : List Int} (h : Ty b l r) : l ≠ [] := by
  induction h with
  | one _ ih => exact ih
  | more _ _ ih _ => exact ih
  | _ => simp
/-- a type's code begins with no bracket -/
theorem Ty.head {b : Bool} {l r : List Int} (h : Ty b l r) : ∀ x, l ≠ 41 :: x := by
  induction h with
  | base hc => rintro x e; injection e with e; subst e; exact absurd hc (by decide)
  | ptr _ _ => simp
  | arr _ _ _ => simp
  | struct _ => simp
  | fn0 _ _ => simp
  | fn _ _ _ _ => simp
  | one _ ih => exact ih
  | more _ _ ih _ => exact ih
theorem ty_ptr {l r : List Int} (h : Ty false (112 :: l) r) : Ty false l r := by
  generalize e : (112 :: l : List Int) = m at h
  cases h with
  | base hc => injection e with e; subst e; exact absurd hc (by decide)
  | ptr h => injection e with _ e; subst e; exact h
  | _ => simp at e
theorem ty_arr {l r : List Int} (h : Ty false (97 :: l) r) : ∃ d m, l = d ++ 58 :: m ∧ whole d = true ∧ Ty false m r := by
  generalize e : (97 :: l : List Int) = k at h
  cases h with
  | base hc => injection e with e; subst e; exact absurd hc (by decide)
  | arr hd h => injection e with _ e; exact ⟨_, _, e, hd, h⟩
  | _ => simp at e
theorem ty_struct {l r : List Int} (h : Ty false (83 :: l) r) : ∃ w, l = w ++ 59 :: r ∧ nameB w = true := by
  generalize e : (83 :: l : List Int) = k at h
  cases h with
  | base hc => injection e with e; subst e; exact absurd hc (by decide)
  | struct hd => injection e with _ e; exact ⟨_, e, hd⟩
  | _ => simp at e
theorem ty_fn {l r : List Int} (h : Ty false (102 :: l) r) : ∃ x, l = 40 :: x ∧ ((∃ m, x = 41 :: m ∧ Ty false m r) ∨ (∃ m, Ty true x m ∧ Ty false m r)) := by
  generalize e : (102 :: l : List Int) = k at h
  cases h with
  | base hc => injection e with e; subst e; exact absurd hc (by decide)
  | fn0 h => injection e with _ e; exact ⟨_, e, .inl ⟨_, rfl, h⟩⟩
  | fn h1 h2 => injection e with _ e; exact ⟨_, e, .inr ⟨_, h1, h2⟩⟩
  | _ => simp at e
theorem ty_base {c : Int} {l r : List Int} (hc : baseC c = true) (h : Ty false (c :: l) r) : r = l := by
  generalize e : (c :: l : List Int) = k at h
  cases h with
  | base _ => injection e with _ e; exact e.symm
  | ptr h => injection e with e; subst e; exact absurd hc (by decide)
  | arr _ _ => injection e with e; subst e; exact absurd hc (by decide)
  | struct _ => injection e with e; subst e; exact absurd hc (by decide)
  | fn0 h => injection e with e; subst e; exact absurd hc (by decide)
  | fn _ _ => injection e with e; subst e; exact absurd hc (by decide)
theorem ty_other {c : Int} {l r : List Int} (hc : baseC c = false) (h1 : c ≠ 112) (h2 : c ≠ 97) (h3 : c ≠ 83) (h4 : c ≠ 102) : ¬ Ty false (c :: l) r := by
  intro h
  generalize e : (c :: l : List Int) = k at h
  cases h with
  | base hc' => injection e with e; subst e; rw [hc] at hc'; cases hc'
  | ptr h => injection e with e; exact h1 e
  | arr _ _ => injection e with e; exact h2 e
  | struct _ => injection e with e; exact h3 e
  | fn0 h => injection e with e; exact h4 e
  | fn _ _ => injection e with e; exact h4 e
theorem ty_params {l r : List Int} (h : Ty true l r) : Ty false l (41 :: r) ∨ ∃ m, Ty false l (44 :: m) ∧ Ty true m r := by
  cases h with
  | one h => exact .inl h
  | more h1 h2 => exact .inr ⟨_, h1, h2⟩
theorem Ty.unique {b : Bool} {l r : List Int} (h : Ty b l r) : ∀ r', Ty b l r' → r = r' := by
  induction h with
  | base hc => exact fun r' h' => (ty_base hc h').symm
  | ptr _ ih => exact fun r' h' => ih r' (ty_ptr h')
  | arr hd _ ih =>
    intro r' h'
    obtain ⟨d', m, e, hd', hm⟩ := ty_arr h'
    obtain ⟨_, e2⟩ := split_unique (whole_digit hd) (whole_digit hd') e
    subst e2
    exact ih r' hm
  | struct hn =>
    intro r' h'
    obtain ⟨w', e, hn'⟩ := ty_struct h'
    exact (split_unique (name_semi hn) (name_semi hn') e).2
  | fn0 _ ih =>
    intro r' h'
    obtain ⟨x, e, hx⟩ := ty_fn h'
    injection e with _ e
    subst e
    rcases hx with ⟨m, e, hm⟩ | ⟨m, hm, _⟩
    · injection e with _ e; subst e; exact ih r' hm
    · exact absurd rfl (hm.head _)
  | fn h1 _ ih1 ih2 =>
    intro r' h'
    obtain ⟨x, e, hx⟩ := ty_fn h'
    injection e with _ e
    subst e
    rcases hx with ⟨m, e, hm⟩ | ⟨m, hm, hm2⟩
    · subst e; exact absurd rfl (h1.head _)
    · have := ih1 m hm
      subst this
      exact ih2 r' hm2
  | one _ ih =>
    intro r' h'
    rcases ty_params h' with h2 | ⟨m, h2, h3⟩
    · have := ih _ h2; injection this
    · have := ih _ h2; injection this with e _; exact absurd e (by decide)
  | more _ _ ih1 ih2 =>
    intro r' h'
    rcases ty_params h' with h2 | ⟨m, h2, h3⟩
    · have := ih1 _ h2; injection this with e _; exact absurd e (by decide)
    · have := ih1 _ h2
      injection this with _ e
      subst e
      exact ih2 _ h3
theorem Ty.shorter {b : Bool} {l r : List Int} (h : Ty b l r) : r.length < l.length := by
  induction h with
  | base _ => simp
  | ptr _ ih => simp; omega
  | arr _ _ ih => simp; omega
  | struct _ => simp; omega
  | fn0 _ ih => simp; omega
  | fn _ _ ih1 ih2 => simp; omega
  | one _ ih => simp at ih; omega
  | more _ _ ih1 ih2 => simp at ih1; omega
end Go.Proofs.YtejhphnlickjlaaDoor.T
namespace Go.Proofs.YtejhphnlickjlaaDoor.T
set_option linter.unusedVariables false
def bitsT (l : List Int) : Nat := if l = [99] then 8 else if l = [115] then 16 else if l = [105] ∨ l = [117] then 32 else 0
def wrapT (l : List Int) (n : Int) : Int := if l = [117] then n % 4294967296 else (n + 2 ^ (bitsT l - 1)) % 2 ^ bitsT l - 2 ^ (bitsT l - 1)
open Classical in
noncomputable def formT (l : List Int) : Bool := decide (l.length ≤ 65536 ∧ Ty false l [])
noncomputable def ptrT (l : List Int) : Bool := decide (l.head? = some 112) && formT l
noncomputable def codeT (l : List Int) : Bool := ptrT l && decide (l[1]? = some 102)
theorem bits_cases (l : List Int) : bitsT l = 0 ∨ bitsT l = 8 ∨ bitsT l = 16 ∨ bitsT l = 32 := by
  unfold bitsT
  split
  · exact .inr (.inl rfl)
  · split
    · exact .inr (.inr (.inl rfl))
    · split
      · exact .inr (.inr (.inr rfl))
      · exact .inl rfl
theorem bits_one {l : List Int} (h : bitsT l ≠ 0) : l = [99] ∨ l = [115] ∨ l = [105] ∨ l = [117] := by
  unfold bitsT at h
  split at h
  · exact .inl ‹_›
  · split at h
    · exact .inr (.inl ‹_›)
    · split at h
      · rename_i h3
        rcases h3 with h3 | h3
        · exact .inr (.inr (.inl h3))
        · exact .inr (.inr (.inr h3))
      · exact absurd rfl h
theorem ty_p_alone (r : List Int) : ¬ Ty false [112] r := fun h => (ty_ptr h).ne rfl
theorem ptr_len {l : List Int} (h : ptrT l = true) : 2 ≤ l.length := by
  unfold ptrT formT at h
  simp only [Bool.and_eq_true, decide_eq_true_eq] at h
  match l, h with
  | [], h => simp at h
  | [c], h =>
    have e : c = 112 := by simpa using h.1
    subst e
    exact absurd h.2.2 (ty_p_alone _)
  | _ :: _ :: _, _ => simp
theorem ptr_bits {l : List Int} (h : ptrT l = true) : bitsT l = 0 := by
  have := ptr_len h
  rcases bits_cases l with h0 | h0
  · exact h0
  · exfalso
    have hb : bitsT l ≠ 0 := by omega
    rcases bits_one hb with e | e | e | e <;> (subst e; simp at this)
def numB (l : List Int) (i o : Int) : Bool := decide (bitsT l ≠ 0 ∧ o = 0 ∧ wrapT l i = i)
noncomputable def ofT (l : List Int) (k i o : Int) : Bool :=
  (decide (bitsT l ≠ 0) || ptrT l) &&
    (if k = 0 then decide (i = 0 ∧ o = 0) else if k = 1 then numB l i o else if k = 3 then ptrT l && decide (i = 0 ∧ o = 0)
     else if k = 2 then ptrT l && !codeT l && decide (0 ≤ i ∧ 0 ≤ o) else if k = 4 then codeT l && decide (0 ≤ i ∧ o = 0) else false)
theorem wrap_bd {l : List Int} (h : bitsT l ≠ 0) (n : Int) : -2147483648 ≤ wrapT l n ∧ wrapT l n ≤ 4294967295 := by
  unfold wrapT
  rcases bits_one h with e | e | e | e <;> subst e
  · rw [if_neg (by decide), show bitsT [99] = 8 from rfl]
    simp only [Nat.reduceSub, Int.reducePow]; omega
  · rw [if_neg (by decide), show bitsT [115] = 16 from rfl]
    simp only [Nat.reduceSub, Int.reducePow]; omega
  · rw [if_neg (by decide), show bitsT [105] = 32 from rfl]
    simp only [Nat.reduceSub, Int.reducePow]; omega
  · rw [if_pos rfl]; omega
/-- the bounds of a whole-number type -/
def lowT (l : List Int) : Int := if l = [117] then 0 else -2 ^ (bitsT l - 1)
def topT (l : List Int) : Int := if l = [117] then 4294967295 else 2 ^ (bitsT l - 1) - 1
theorem wrap_fix {l : List Int} (h : bitsT l ≠ 0) (n : Int) : wrapT l n = n ↔ lowT l ≤ n ∧ n ≤ topT l := by
  unfold wrapT lowT topT
  rcases bits_one h with e | e | e | e <;> subst e
  · rw [if_neg (by decide), if_neg (by decide), if_neg (by decide), show bitsT [99] = 8 from rfl]
    simp only [Nat.reduceSub, Int.reducePow]; omega
  · rw [if_neg (by decide), if_neg (by decide), if_neg (by decide), show bitsT [115] = 16 from rfl]
    simp only [Nat.reduceSub, Int.reducePow]; omega
  · rw [if_neg (by decide), if_neg (by decide), if_neg (by decide), show bitsT [105] = 32 from rfl]
    simp only [Nat.reduceSub, Int.reducePow]; omega
  · rw [if_pos rfl, if_pos rfl, if_pos rfl]; omega
end Go.Proofs.YtejhphnlickjlaaDoor.T
namespace Go.Proofs.YtejhphnlickjlaaDoor.T
open Go.RowKit
set_option linter.unusedVariables false
/-! ### bytes of a text -/
def nums (s : ByteArray) : List Int := s.data.toList.map fun b => (b.toNat : Int)
theorem nums_length (s : ByteArray) : (nums s).length = s.size := by unfold nums; rw [List.length_map, Array.length_toList]; rfl
theorem nums_get (s : ByteArray) (k : Nat) (h : k < s.size) : (nums s)[k]? = some (s[k].toNat : Int) := by
  have h' : k < s.data.toList.length := by rw [Array.length_toList]; exact h
  simp only [nums, List.getElem?_map, List.getElem?_eq_getElem h', Option.map_some]
  rfl
theorem nums_str {xs : List Int} (h : ∀ x ∈ xs, 0 ≤ x ∧ x ≤ 255) : nums (strOfNums xs) = xs := by
  unfold nums
  rw [strOfNums_data, List.map_map]
  conv => rhs; rw [← List.map_id xs]
  refine List.map_congr_left fun x hx => ?_
  obtain ⟨h0, h1⟩ := h x hx
  simp only [Function.comp, id]
  rw [UInt8.toNat_ofNat']
  omega
theorem nums_inj {s t : ByteArray} (h : nums s = nums t) : s = t := by
  apply ByteArray.ext
  apply Array.toList_inj.1
  unfold nums at h
  have hf : ∀ (a b : List UInt8), a.map (fun b => (b.toNat : Int)) = b.map (fun b => (b.toNat : Int)) → a = b := by
    intro a
    induction a with
    | nil => intro b hb; cases b with | nil => rfl | cons y r => simp at hb
    | cons x a ih =>
      intro b hb
      cases b with
      | nil => simp at hb
      | cons y r =>
        rw [List.map_cons, List.map_cons] at hb
        injection hb with h1 h2
        have hxy : x.toNat = y.toNat := by omega
        rw [UInt8.toNat_inj.1 hxy, ih r h2]
  exact hf _ _ h

/-! ### what is left from a place on -/
def sfx (s : ByteArray) (k : Nat) : List Int := (nums s).drop k
theorem sfx_zero (s : ByteArray) : sfx s 0 = nums s := rfl
theorem sfx_length (s : ByteArray) (k : Nat) : (sfx s k).length = s.size - k := by unfold sfx; rw [List.length_drop, nums_length]
theorem sfx_cons (s : ByteArray) (k : Nat) (h : k < s.size) : sfx s k = (s[k].toNat : Int) :: sfx s (k + 1) := by
  have h' : k < (nums s).length := by rw [nums_length]; exact h
  unfold sfx
  rw [List.drop_eq_getElem_cons h']
  congr 1
  have := nums_get s k h
  rw [List.getElem?_eq_getElem h'] at this
  exact Option.some.inj this
theorem sfx_nil (s : ByteArray) (k : Nat) (h : s.size ≤ k) : sfx s k = [] := by
  unfold sfx
  exact List.drop_eq_nil_of_le (by rw [nums_length]; exact h)
theorem sfx_head {s : ByteArray} {k : Nat} {c : Int} {r : List Int} (h : sfx s k = c :: r) : ∃ hk : k < s.size, (s[k].toNat : Int) = c ∧ sfx s (k + 1) = r := by
  rcases Nat.lt_or_ge k s.size with hk | hk
  · refine ⟨hk, ?_⟩
    rw [sfx_cons s k hk] at h
    injection h with h1 h2
    exact ⟨h1, h2⟩
  · rw [sfx_nil s k hk] at h
    cases h
theorem sfx_end {s : ByteArray} {k : Nat} (h : sfx s k = []) (hk : k ≤ s.size) : k = s.size := by
  have := sfx_length s k
  rw [h] at this
  simp at this
  omega
theorem sfx_add (s : ByteArray) (k n : Nat) : sfx s (k + n) = (sfx s k).drop n := by unfold sfx; rw [List.drop_drop]
theorem nums_extract (s : ByteArray) (a b : Nat) (hb : b ≤ s.size) : nums (s.extract a b) = (sfx s a).take (b - a) := by
  unfold nums sfx nums
  rw [← List.map_drop, ← List.map_take]
  congr 1
  simp [ByteArray.data_extract]
theorem byte_bd (b : UInt8) : (0 : Int) ≤ b.toNat ∧ (b.toNat : Int) ≤ 255 := by have := b.toNat_lt; omega
theorem nums_byte (s : ByteArray) : ∀ x ∈ nums s, 0 ≤ x ∧ x ≤ 255 := by
  intro x hx
  obtain ⟨b, _, rfl⟩ := List.mem_map.1 hx
  exact byte_bd b
/-- where a byte stands in what is left; -1: nowhere -/
theorem index_none {s : ByteArray} {c : UInt8} (h : Lib.indexByte s.data.toList c = -1) : ∀ x ∈ nums s, x ≠ (c.toNat : Int) := by
  intro x hx
  obtain ⟨b, hb, rfl⟩ := List.mem_map.1 hx
  obtain ⟨k, hk, rfl⟩ := List.getElem_of_mem hb
  have := Lib.indexByte_none h k
  rw [List.getElem?_eq_getElem hk] at this
  intro e
  have e2 : (s.data.toList[k]).toNat = c.toNat := by omega
  exact this (congrArg some (UInt8.toNat_inj.1 e2))
theorem index_some {s : ByteArray} {c : UInt8} {o : Nat} (h : Lib.indexByte s.data.toList c = (o : Int)) : ∃ r, nums s = (nums s).take o ++ (c.toNat : Int) :: r ∧ o < s.size ∧ ∀ x ∈ (nums s).take o, x ≠ (c.toNat : Int) := by
  obtain ⟨h1, h2⟩ := Lib.indexByte_some h
  have ho : o < s.data.toList.length := (List.getElem?_eq_some_iff.1 h1).1
  have ho' : o < (nums s).length := by unfold nums; rw [List.length_map]; exact ho
  have hv : (nums s)[o] = (c.toNat : Int) := by
    have : (nums s)[o]? = some (c.toNat : Int) := by unfold nums; rw [List.getElem?_map, h1]; rfl
    rw [List.getElem?_eq_getElem ho'] at this
    exact Option.some.inj this
  refine ⟨(nums s).drop (o + 1), ?_, by rw [nums_length] at ho'; exact ho', fun x hx => ?_⟩
  · rw [← hv, ← List.drop_eq_getElem_cons ho', List.take_append_drop]
  · obtain ⟨k, hk, rfl⟩ := List.getElem_of_mem hx
    rw [List.length_take] at hk
    rw [List.getElem_take]
    have hkl : k < s.data.toList.length := by omega
    have := h2 k (by omega)
    rw [List.getElem?_eq_getElem hkl] at this
    intro e
    have e1 : (nums s)[k]? = some ((s.data.toList[k]).toNat : Int) := by unfold nums; rw [List.getElem?_map, List.getElem?_eq_getElem hkl]; rfl
    rw [List.getElem?_eq_getElem (by omega)] at e1
    have e2 := Option.some.inj e1
    rw [e] at e2
    have e3 : (s.data.toList[k]).toNat = c.toNat := by omega
    exact this (congrArg some (UInt8.toNat_inj.1 e3))
end Go.Proofs.YtejhphnlickjlaaDoor.T
