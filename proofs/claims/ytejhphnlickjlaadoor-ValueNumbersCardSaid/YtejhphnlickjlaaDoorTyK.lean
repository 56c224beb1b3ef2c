/-
  Contracts of Form, IsInt and IsScalar of package types.
-/
import Derived.Test.YtejhphnlickjlaaDoorTyJ
import Derived.Test.YtejhphnlickjlaaDoorValPlain
namespace Go.Proofs.YtejhphnlickjlaaDoor.ty
open Go.ChangeShapes Go.WideShapes Go.RowKit
open M T
set_option linter.unusedVariables false
theorem toList_one (s : ByteArray) (c : UInt8) (n : Int) (hn : n = (c.toNat : Int)) : (s.toList == [c]) = decide (nums s = [n]) := by
  subst hn
  have h : s.toList = s.data.toList := by rw [ByteArray.toList_eq]
  rw [h]
  unfold nums
  by_cases e : s.data.toList = [c]
  · rw [e]; simp
  · have : ¬ List.map (fun b : UInt8 => (b.toNat : Int)) s.data.toList = [(c.toNat : Int)] := by
      intro hh
      apply e
      have hlen := congrArg List.length hh
      simp only [List.length_map, List.length_cons, List.length_nil] at hlen
      obtain ⟨d, hd⟩ := List.length_eq_one_iff.mp hlen
      rw [hd] at hh ⊢
      simp only [List.map_cons, List.map_nil, List.cons.injEq, and_true] at hh
      rw [UInt8.toNat_inj.mp (by omega : d.toNat = c.toNat)]
    simp [e, this]
theorem form_nums {s : ByteArray} : formT (nums s) = true ↔ s.size ≤ 65536 ∧ Ty false (nums s) [] := by
  unfold formT
  rw [nums_length]
  exact @decide_eq_true_iff _ (_)
theorem Form_any (s : ByteArray) (w : World) (hK : KeysIn w) (hs : s.size ≤ maxLen) : Calls Tryd.prog 86 #[.string s] w fun e w' => e = .returned (.bool (formT (nums s))) ∧ Below w.heap.size w w' := by
  have HD : Hid (∀ W, Below w.heap.size w W → W.heap.size = w.heap.size → Calls Tryd.prog 93 #[.string s] W fun e w' => ∃ n : Nat, e = .returned (.int .i64 n) ∧ (0 < n ↔ formT (nums s) = true) ∧ Below w.heap.size w w') := Lib.hid (fun W hW he => (depth_any s W (hK.below hW) hs).mono fun e w' ⟨n, h1, h2, h3⟩ => ⟨n, h1, h2.trans form_nums.symm, hW.trans (h3.mono (by omega))⟩)
  generalize formT (nums s) = b at HD ⊢
  clear hK
  unfold maxLen at hs
  go_enter Tryd.func86, Tryd.ntmps86
  go_wp2_with (first
    | (go_at_call 93; refine (HD.out _ (Below.refl _ _) rfl).mono ?_; rintro e w1 ⟨n, rfl, h1, h2⟩; have H1 := Lib.hid h1; have H2 := Lib.hid h2; clear h1 h2))
  go_ret
  refine ⟨?_, H2.out⟩
  have h1 := H1.out
  cases b <;> simp_all
theorem IsInt_any (s : ByteArray) (w : World) : Calls Tryd.prog 62 #[.string s] w fun e w' => e = .returned (.bool (decide (bitsT (nums s) ≠ 0))) ∧ w' = w := by
  have a1 := toList_one s 99 99 rfl
  have a2 := toList_one s 115 115 rfl
  have a3 := toList_one s 105 105 rfl
  have a4 := toList_one s 117 117 rfl
  by_cases h1 : nums s = [99]
  · rw [show decide (bitsT (nums s) ≠ 0) = true from by rw [h1]; rfl]
    rw [decide_eq_true h1] at a1
    clear a2 a3 a4 h1
    go_enter Tryd.func62, Tryd.ntmps62
    go_wp2_with fail
    go_ret
    exact ⟨rfl, rfl⟩
  · rw [decide_eq_false h1] at a1
    by_cases h2 : nums s = [115]
    · rw [show decide (bitsT (nums s) ≠ 0) = true from by rw [h2]; rfl]
      rw [decide_eq_true h2] at a2
      clear a3 a4 h1 h2
      go_enter Tryd.func62, Tryd.ntmps62
      go_wp2_with fail
      go_ret
      exact ⟨rfl, rfl⟩
    · rw [decide_eq_false h2] at a2
      by_cases h3 : nums s = [105]
      · rw [show decide (bitsT (nums s) ≠ 0) = true from by rw [h3]; rfl]
        rw [decide_eq_true h3] at a3
        clear a4 h1 h2 h3
        go_enter Tryd.func62, Tryd.ntmps62
        go_wp2_with fail
        go_ret
        exact ⟨rfl, rfl⟩
      · rw [decide_eq_false h3] at a3
        by_cases h4 : nums s = [117]
        · rw [show decide (bitsT (nums s) ≠ 0) = true from by rw [h4]; rfl]
          rw [decide_eq_true h4] at a4
          clear h1 h2 h3 h4
          go_enter Tryd.func62, Tryd.ntmps62
          go_wp2_with fail
          go_ret
          exact ⟨rfl, rfl⟩
        · rw [show decide (bitsT (nums s) ≠ 0) = false from by simp [bitsT, h1, h2, h3, h4]]
          rw [decide_eq_false h4] at a4
          clear h1 h2 h3 h4
          go_enter Tryd.func62, Tryd.ntmps62
          go_wp2_with fail
          go_ret
          exact ⟨rfl, rfl⟩
theorem IsScalar_any (s : ByteArray) (w : World) (hK : KeysIn w) (hs : s.size ≤ maxLen) : Calls Tryd.prog 73 #[.string s] w fun e w' => e = .returned (.bool (decide (bitsT (nums s) ≠ 0) || ptrT (nums s))) ∧ Below w.heap.size w w' := by
  have HI := Lib.hid (IsInt_any s w)
  have HF := Lib.hid (Form_any s w hK hs)
  unfold maxLen at hs
  clear hK
  by_cases h1 : bitsT (nums s) = 0
  · rw [decide_eq_false (fun h => h h1)] at HI ⊢
    rw [Bool.false_or]
    clear h1
    by_cases h2 : 0 < s.size
    · have g0 := nums_get s 0 h2
      have hh : (nums s).head? = (nums s)[0]? := by rw [List.head?_eq_getElem?]
      by_cases h3 : s[0].toNat = 112
      · have h4 : s[0] = 112 := UInt8.toNat_inj.mp h3
        have hp : ptrT (nums s) = formT (nums s) := by
          unfold ptrT
          rw [decide_eq_true (by rw [hh, g0, h3]; rfl), Bool.true_and]
        rw [hp]
        clear hp hh g0
        generalize formT (nums s) = b at HF ⊢
        go_enter Tryd.func73, Tryd.ntmps73
        go_wp2_with (first
          | (go_at_call 62; refine HI.out.mono ?_; rintro e w1 ⟨rfl, rfl⟩)
          | (go_at_call 86; refine HF.out.mono ?_; rintro e w2 ⟨rfl, hb2⟩))
        go_ret
        exact ⟨rfl, hb2⟩
      · have hp : ptrT (nums s) = false := by
          unfold ptrT
          rw [decide_eq_false (by rw [hh, g0]; simp; omega), Bool.false_and]
        rw [hp]
        clear hp hh g0 HF
        go_enter Tryd.func73, Tryd.ntmps73
        go_wp2_with (go_at_call 62; refine HI.out.mono ?_; rintro e w1 ⟨rfl, rfl⟩)
        go_ret
        exact ⟨rfl, Below.refl _ _⟩
    · have hp : ptrT (nums s) = false := by
        have : nums s = [] := List.eq_nil_of_length_eq_zero (by rw [nums_length]; omega)
        unfold ptrT
        rw [this]; rfl
      rw [hp]
      clear hp HF
      go_enter Tryd.func73, Tryd.ntmps73
      go_wp2_with (go_at_call 62; refine HI.out.mono ?_; rintro e w1 ⟨rfl, rfl⟩)
      go_ret
      exact ⟨rfl, Below.refl _ _⟩
  · rw [decide_eq_true h1] at HI ⊢
    clear h1 HF
    go_enter Tryd.func73, Tryd.ntmps73
    go_wp2_with (go_at_call 62; refine HI.out.mono ?_; rintro e w1 ⟨rfl, rfl⟩)
    go_ret
    exact ⟨rfl, Below.refl _ _⟩
end Go.Proofs.YtejhphnlickjlaaDoor.ty
