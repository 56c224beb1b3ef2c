/-
  Plain laws of texts: a text's bytes as numbers, and what is left of them from a place on. No program in sight.
-/
import Derived.WalkKit
import Derived.Laws.BytesArg
import Derived.Laws.Strings
import Derived.Lib.IndexLaws
namespace Go.Proofs.YtejhphnlickjlaaDoor.T
open Go.RowKit
set_option linter.unusedVariables false
/-! ### bytes of a text -/
def nums (s : ByteArray) : List Int := s.data.toList.map fun b => (b.toNat : Int)
theorem nums_length (s : ByteArray) : (nums s).length = s.size := by unfold nums; rw [List.length_map, Array.length_toList]; rfl
theorem nums_get (s : ByteArray) (k : Nat) (h : k < s.size) : (nums s)[k]? = some (s[k].toNat : Int) := by
  have h' : k < s.data.toList.length := by rw [Array.length_toList]; exact h
  simp only [nums, List.getElem?_map, List.getElem?_eq_getElem h', Option.map_some]
  rfl
theorem nums_str {xs : List Int} (h : ∀ x ∈ xs, 0 ≤ x ∧ x ≤ 255) : nums (strOfNums xs) = xs := by
  unfold nums
  rw [strOfNums_data, List.map_map]
  conv => rhs; rw [← List.map_id xs]
  refine List.map_congr_left fun x hx => ?_
  obtain ⟨h0, h1⟩ := h x hx
  simp only [Function.comp, id]
  rw [UInt8.toNat_ofNat']
  omega
theorem nums_inj {s t : ByteArray} (h : nums s = nums t) : s = t := by
  apply ByteArray.ext
  apply Array.toList_inj.1
  unfold nums at h
  have hf : ∀ (a b : List UInt8), a.map (fun b => (b.toNat : Int)) = b.map (fun b => (b.toNat : Int)) → a = b := by
    intro a
    induction a with
    | nil => intro b hb; cases b with | nil => rfl | cons y r => simp at hb
    | cons x a ih =>
      intro b hb
      cases b with
      | nil => simp at hb
      | cons y r =>
        rw [List.map_cons, List.map_cons] at hb
        injection hb with h1 h2
        have hxy : x.toNat = y.toNat := by omega
        rw [UInt8.toNat_inj.1 hxy, ih r h2]
  exact hf _ _ h

/-! ### what is left from a place on -/
def sfx (s : ByteArray) (k : Nat) : List Int := (nums s).drop k
theorem sfx_zero (s : ByteArray) : sfx s 0 = nums s := rfl
theorem sfx_length (s : ByteArray) (k : Nat) : (sfx s k).length = s.size - k := by unfold sfx; rw [List.length_drop, nums_length]
theorem sfx_cons (s : ByteArray) (k : Nat) (h : k < s.size) : sfx s k = (s[k].toNat : Int) :: sfx s (k + 1) := by
  have h' : k < (nums s).length := by rw [nums_length]; exact h
  unfold sfx
  rw [List.drop_eq_getElem_cons h']
  congr 1
  have := nums_get s k h
  rw [List.getElem?_eq_getElem h'] at this
  exact Option.some.inj this
theorem sfx_nil (s : ByteArray) (k : Nat) (h : s.size ≤ k) : sfx s k = [] := by
  unfold sfx
  exact List.drop_eq_nil_of_le (by rw [nums_length]; exact h)
theorem sfx_head {s : ByteArray} {k : Nat} {c : Int} {r : List Int} (h : sfx s k = c :: r) : ∃ hk : k < s.size, (s[k].toNat : Int) = c ∧ sfx s (k + 1) = r := by
  rcases Nat.lt_or_ge k s.size with hk | hk
  · refine ⟨hk, ?_⟩
    rw [sfx_cons s k hk] at h
    injection h with h1 h2
    exact ⟨h1, h2⟩
  · rw [sfx_nil s k hk] at h
    cases h
theorem sfx_end {s : ByteArray} {k : Nat} (h : sfx s k = []) (hk : k ≤ s.size) : k = s.size := by
  have := sfx_length s k
  rw [h] at this
  simp at this
  omega
theorem sfx_add (s : ByteArray) (k n : Nat) : sfx s (k + n) = (sfx s k).drop n := by unfold sfx; rw [List.drop_drop]
theorem nums_extract (s : ByteArray) (a b : Nat) (hb : b ≤ s.size) : nums (s.extract a b) = (sfx s a).take (b - a) := by
  unfold nums sfx nums
  rw [← List.map_drop, ← List.map_take]
  congr 1
  simp [ByteArray.data_extract]
theorem byte_bd (b : UInt8) : (0 : Int) ≤ b.toNat ∧ (b.toNat : Int) ≤ 255 := by have := b.toNat_lt; omega
theorem nums_byte (s : ByteArray) : ∀ x ∈ nums s, 0 ≤ x ∧ x ≤ 255 := by
  intro x hx
  obtain ⟨b, _, rfl⟩ := List.mem_map.1 hx
  exact byte_bd b
/-- where a byte stands in what is left; -1: nowhere -/
theorem index_none {s : ByteArray} {c : UInt8} (h : Lib.indexByte s.data.toList c = -1) : ∀ x ∈ nums s, x ≠ (c.toNat : Int) := by
  intro x hx
  obtain ⟨b, hb, rfl⟩ := List.mem_map.1 hx
  obtain ⟨k, hk, rfl⟩ := List.getElem_of_mem hb
  have := Lib.indexByte_none h k
  rw [List.getElem?_eq_getElem hk] at this
  intro e
  have e2 : (s.data.toList[k]).toNat = c.toNat := by omega
  exact this (congrArg some (UInt8.toNat_inj.1 e2))
theorem index_some {s : ByteArray} {c : UInt8} {o : Nat} (h : Lib.indexByte s.data.toList c = (o : Int)) : ∃ r, nums s = (nums s).take o ++ (c.toNat : Int) :: r ∧ o < s.size ∧ ∀ x ∈ (nums s).take o, x ≠ (c.toNat : Int) := by
  obtain ⟨h1, h2⟩ := Lib.indexByte_some h
  have ho : o < s.data.toList.length := (List.getElem?_eq_some_iff.1 h1).1
  have ho' : o < (nums s).length := by unfold nums; rw [List.length_map]; exact ho
  have hv : (nums s)[o] = (c.toNat : Int) := by
    have : (nums s)[o]? = some (c.toNat : Int) := by unfold nums; rw [List.getElem?_map, h1]; rfl
    rw [List.getElem?_eq_getElem ho'] at this
    exact Option.some.inj this
  refine ⟨(nums s).drop (o + 1), ?_, by rw [nums_length] at ho'; exact ho', fun x hx => ?_⟩
  · rw [← hv, ← List.drop_eq_getElem_cons ho', List.take_append_drop]
  · obtain ⟨k, hk, rfl⟩ := List.getElem_of_mem hx
    rw [List.length_take] at hk
    rw [List.getElem_take]
    have hkl : k < s.data.toList.length := by omega
    have := h2 k (by omega)
    rw [List.getElem?_eq_getElem hkl] at this
    intro e
    have e1 : (nums s)[k]? = some ((s.data.toList[k]).toNat : Int) := by unfold nums; rw [List.getElem?_map, List.getElem?_eq_getElem hkl]; rfl
    rw [List.getElem?_eq_getElem (by omega)] at e1
    have e2 := Option.some.inj e1
    rw [e] at e2
    have e3 : (s.data.toList[k]).toNat = c.toNat := by omega
    exact this (congrArg some (UInt8.toNat_inj.1 e3))
end Go.Proofs.YtejhphnlickjlaaDoor.T
