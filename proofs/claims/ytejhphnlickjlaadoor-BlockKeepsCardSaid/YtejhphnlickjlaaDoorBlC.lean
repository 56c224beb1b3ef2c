/-
  Contracts of package block: width, ranges, fits, fixed. Condition: the table of keywords stands in memory; lengths.
-/
import Derived.Test.YtejhphnlickjlaaDoorBlA
import Derived.Test.YtejhphnlickjlaaDoorVaH
set_option linter.unusedVariables false
set_option linter.unusedSimpArgs false
namespace Go.Proofs.YtejhphnlickjlaaDoor.bl
open Go.RowKit Go.ChangeShapes Go.WideShapes
open M T ty
set_option linter.unusedVariables false
/-- the bytes of a scalar type -/
noncomputable def widthT (l : List Int) : Nat := if bitsT l ≠ 0 then bitsT l / 8 else if ptrT l = true then 4 else 0
/-- the least and the greatest number of a type, as ranges tells them (a type that is no whole number's counts as int) -/
def rangeT (l : List Int) : Int × Int := if l = [99] then (-128, 127) else if l = [115] then (-32768, 32767) else if l = [117] then (0, 4294967295) else (-2147483648, 2147483647)
theorem width_any (s : ByteArray) (w : World) (hK : KeysIn w) (hs : s.size ≤ maxLen) : Calls Tryd.prog 58 #[.string s] w fun e w' => e = .returned (.int .i64 (widthT (T.nums s) : Nat)) ∧ Below w.heap.size w w' := by
  have a0 := toList_one s 99 99 rfl
  have a1 := toList_one s 115 115 rfl
  have a2 := toList_one s 105 105 rfl
  have a3 := toList_one s 117 117 rfl
  by_cases h0 : T.nums s = [99]
  · rw [decide_eq_true h0] at a0
    rw [show widthT (T.nums s) = 1 from by unfold widthT; rw [h0]; rfl]
    clear hK hs a1 a2 a3 h0
    go_enter Tryd.func58, Tryd.ntmps58
    go_wp2_with fail
    go_ret
    exact ⟨rfl, Below.refl _ _⟩
  · rw [decide_eq_false h0] at a0
    by_cases h1 : T.nums s = [115]
    · rw [decide_eq_true h1] at a1
      rw [show widthT (T.nums s) = 2 from by unfold widthT; rw [h1]; rfl]
      clear hK hs a2 a3 h0 h1
      go_enter Tryd.func58, Tryd.ntmps58
      go_wp2_with fail
      go_ret
      exact ⟨rfl, Below.refl _ _⟩
    · rw [decide_eq_false h1] at a1
      by_cases h2 : T.nums s = [105]
      · rw [decide_eq_true h2] at a2
        rw [show widthT (T.nums s) = 4 from by unfold widthT; rw [h2]; rfl]
        clear hK hs a3 h0 h1 h2
        go_enter Tryd.func58, Tryd.ntmps58
        go_wp2_with fail
        go_ret
        exact ⟨rfl, Below.refl _ _⟩
      · rw [decide_eq_false h2] at a2
        by_cases h3 : T.nums s = [117]
        · rw [decide_eq_true h3] at a3
          rw [show widthT (T.nums s) = 4 from by unfold widthT; rw [h3]; rfl]
          clear hK hs  h0 h1 h2 h3
          go_enter Tryd.func58, Tryd.ntmps58
          go_wp2_with fail
          go_ret
          exact ⟨rfl, Below.refl _ _⟩
        · rw [decide_eq_false h3] at a3
          have hb : bitsT (T.nums s) = 0 := by simp [bitsT, h0, h1, h2, h3]
          have HI : Hid (Calls Tryd.prog 73 #[.string s] w fun e w' => e = .returned (.bool (ptrT (T.nums s))) ∧ Below w.heap.size w w') := Lib.hid (by have := IsScalar_any s w hK hs; rw [decide_eq_false (fun h => h hb), Bool.false_or] at this; exact this)
          have hw : widthT (T.nums s) = if ptrT (T.nums s) = true then 4 else 0 := by unfold widthT; rw [if_neg (fun h => h hb)]
          rw [hw]
          clear hK hs hb hw h0 h1 h2 h3
          generalize ptrT (T.nums s) = pb at *
          cases pb
          all_goals
            go_enter Tryd.func58, Tryd.ntmps58
            go_wp2_with (go_at_call 73; refine HI.out.mono ?_; rintro e w1 ⟨rfl, hb1⟩)
            go_ret
            exact ⟨rfl, hb1⟩
theorem ranges_any (s : ByteArray) (w : World) : Calls Tryd.prog 81 #[.string s] w fun e w' => e = .returned (.tuple #[.int .i64 (rangeT (T.nums s)).1, .int .i64 (rangeT (T.nums s)).2]) ∧ w' = w := by
  have a0 := toList_one s 99 99 rfl
  have a1 := toList_one s 115 115 rfl
  have a2 := toList_one s 117 117 rfl
  by_cases h0 : T.nums s = [99]
  · rw [decide_eq_true h0] at a0
    rw [show rangeT (T.nums s) = (-128, 127) from by simp [rangeT, h0]]
    clear a1 a2 h0
    go_enter Tryd.func81, Tryd.ntmps81
    go_wp2_with fail
    go_ret2
    exact ⟨rfl, rfl⟩
  · rw [decide_eq_false h0] at a0
    by_cases h1 : T.nums s = [115]
    · rw [decide_eq_true h1] at a1
      rw [show rangeT (T.nums s) = (-32768, 32767) from by simp [rangeT, h0, h1]]
      clear a2 h0 h1
      go_enter Tryd.func81, Tryd.ntmps81
      go_wp2_with fail
      go_ret2
      exact ⟨rfl, rfl⟩
    · rw [decide_eq_false h1] at a1
      by_cases h2 : T.nums s = [117]
      · rw [decide_eq_true h2] at a2
        rw [show rangeT (T.nums s) = (0, 4294967295) from by simp [rangeT, h0, h1, h2]]
        clear  h0 h1 h2
        go_enter Tryd.func81, Tryd.ntmps81
        go_wp2_with fail
        go_ret2
        exact ⟨rfl, rfl⟩
      · rw [decide_eq_false h2] at a2
        rw [show rangeT (T.nums s) = (-2147483648, 2147483647) from by simp [rangeT, h0, h1, h2]]
        clear  h0 h1 h2
        go_enter Tryd.func81, Tryd.ntmps81
        go_wp2_with fail
        go_ret2
        exact ⟨rfl, rfl⟩
/-- does a value fit a scalar type? -/
noncomputable def fitsT (l : List Int) (k i o : Int) : Bool :=
  if bitsT l ≠ 0 then decide (k = 1) && decide (o = 0) && decide ((rangeT l).1 ≤ i) && decide (i ≤ (rangeT l).2)
  else if k = 2 then true else if k = 3 then decide (i = 0) && decide (o = 0) else if k = 4 then decide (o = 0) else false
set_option maxRecDepth 20000 in
set_option maxHeartbeats 1600000 in
theorem fits_any (s : ByteArray) (k i o : Int) (w : World) : Calls Tryd.prog 65 #[.string s, vT k i o] w fun e w' => e = .returned (.bool (fitsT (T.nums s) k i o)) ∧ Below w.heap.size w w' := by
  unfold vT fitsT
  have HI := Lib.hid (fun W => IsInt_any s W)
  have HR := Lib.hid (fun W => ranges_any s W)
  have HB : Hid (Below w.heap.size w (w.alloc (.cells #[.int .i64 k, .int .i64 i, .int .i64 o] 24))) := Lib.hid ((Below.refl _ _).alloc (Nat.le_refl _) _)
  by_cases hb : bitsT (T.nums s) = 0
  · rw [if_neg (fun h => h hb)]
    rw [decide_eq_false (fun h => h hb)] at HI
    clear hb HR
    rcases eq0_cases o with ⟨rfl, -⟩ | ⟨ho, bo⟩
    all_goals rcases eq0_cases i with ⟨rfl, -⟩ | ⟨hi, bi⟩
    all_goals
      by_cases k2 : k = 2
      · subst k2
        go_enter Tryd.func65, Tryd.ntmps65
        go_wp2_with (go_at_call 62; refine (HI.out _).mono ?_; rintro e w1 ⟨rfl, rfl⟩)
        go_ret
        exact ⟨ret_bool (by simp [*]), (Below.refl _ _).alloc (Nat.le_refl _) _⟩
      · by_cases k3 : k = 3
        · subst k3
          go_enter Tryd.func65, Tryd.ntmps65
          go_wp2_with (go_at_call 62; refine (HI.out _).mono ?_; rintro e w1 ⟨rfl, rfl⟩)
          go_ret
          exact ⟨ret_bool (by simp [*]), (Below.refl _ _).alloc (Nat.le_refl _) _⟩
        · by_cases k4 : k = 4
          · subst k4
            go_enter Tryd.func65, Tryd.ntmps65
            go_wp2_with (go_at_call 62; refine (HI.out _).mono ?_; rintro e w1 ⟨rfl, rfl⟩)
            go_ret
            exact ⟨ret_bool (by simp [*]), (Below.refl _ _).alloc (Nat.le_refl _) _⟩
          · rw [if_neg k2, if_neg k3, if_neg k4]
            have q2 : (k == 2) = false := by rw [beq_eq_false_iff_ne]; exact k2
            have q3 : (k == 3) = false := by rw [beq_eq_false_iff_ne]; exact k3
            have q4 : (k == 4) = false := by rw [beq_eq_false_iff_ne]; exact k4
            clear k2 k3 k4
            go_enter Tryd.func65, Tryd.ntmps65
            go_wp2_with (go_at_call 62; refine (HI.out _).mono ?_; rintro e w1 ⟨rfl, rfl⟩)
            go_ret
            exact ⟨rfl, HB.out⟩
  · rw [if_pos hb]
    rw [decide_eq_true hb] at HI
    clear hb
    generalize (rangeT (T.nums s)).1 = lo at *
    generalize (rangeT (T.nums s)).2 = hi at *
    rcases eq0_cases o with ⟨rfl, -⟩ | ⟨ho, bo⟩
    all_goals by_cases k1 : k = 1
    all_goals by_cases g1 : lo ≤ i
    all_goals by_cases g2 : i ≤ hi
    all_goals
      have q1 : (k == 1) = decide (k = 1) := by rw [Bool.eq_iff_iff, beq_iff_eq, decide_eq_true_iff]
      first | rw [decide_eq_true k1] at q1 | rw [decide_eq_false k1] at q1
      go_enter Tryd.func65, Tryd.ntmps65
      go_wp2_with (first | (go_at_call 62; refine (HI.out _).mono ?_; rintro e w1 ⟨rfl, rfl⟩) | (go_at_call 81; refine (HR.out _).mono ?_; rintro e w1 ⟨rfl, rfl⟩))
      go_ret
      exact ⟨ret_bool (by simp [*]), (Below.refl _ _).alloc (Nat.le_refl _) _⟩
def fixedB (k : Int) : Bool := decide (k = 3 ∨ k = 4)
theorem fixed_any (k i o : Int) (w : World) : Calls Tryd.prog 69 #[vT k i o] w fun e w' => e = .returned (.bool (fixedB k)) ∧ Below w.heap.size w w' := by
  unfold vT fixedB
  have HB : Hid (Below w.heap.size w (w.alloc (.cells #[.int .i64 k, .int .i64 i, .int .i64 o] 24))) := Lib.hid ((Below.refl _ _).alloc (Nat.le_refl _) _)
  by_cases k3 : k = 3
  · subst k3
    go_enter Tryd.func69, Tryd.ntmps69
    go_wp2_with fail
    go_ret
    exact ⟨rfl, HB.out⟩
  · have q3 : (k == 3) = false := by rw [beq_eq_false_iff_ne]; exact k3
    by_cases k4 : k = 4
    · subst k4
      clear k3
      go_enter Tryd.func69, Tryd.ntmps69
      go_wp2_with fail
      go_ret
      exact ⟨rfl, HB.out⟩
    · have q4 : (k == 4) = false := by rw [beq_eq_false_iff_ne]; exact k4
      rw [decide_eq_false (by omega)]
      clear k3 k4
      go_enter Tryd.func69, Tryd.ntmps69
      go_wp2_with fail
      go_ret
      exact ⟨rfl, HB.out⟩
end Go.Proofs.YtejhphnlickjlaaDoor.bl
