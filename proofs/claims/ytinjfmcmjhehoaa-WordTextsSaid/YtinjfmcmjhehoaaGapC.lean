/-
  Contracts of slices.IndexFunc over gaps, with the closures that the program hands to it. No condition but the list as it stands in memory.
-/
import Derived.Test.YtinjfmcmjhehoaaGapB
namespace Go.Proofs.Ytinjfmcmjhehoaa.gaps
open Go.ChangeShapes Go.WideShapes Go.ChangeAt Go.RowKit
open M G
set_option linter.unusedVariables false
theorem close_take (b : Nat) (m x1 x2 : Int) (w : World) (hb : b < w.heap.size) (hc : w.cell? ⟨b, 0, none⟩ = some (.int .i64 m)) :
    Calls Try.prog 69 #[.agg #[.int .i64 x1, .int .i64 x2], .pointer (some ⟨b, 0, none⟩)] w fun e w' => e = .returned (.bool (decide (m ≤ x2))) ∧ Below w.heap.size w w' := by
  go_enter Try.func69, Try.ntmps69
  go_wp2
  go_ret
  exact ⟨rfl, (Below.refl _ _).alloc (Nat.le_refl _) _⟩
theorem close_give (b : Nat) (m s x1 x2 : Int) (w : World) (hb : b < w.heap.size) (hc : w.cell? ⟨b, 0, none⟩ = some (.int .i64 m)) :
    Calls Try.prog 71 #[.agg #[.int .i64 x1, .int .i64 x2], .pointer (some ⟨b, 0, none⟩)] w fun e w' => e = .returned (.bool (decide (m < x1))) ∧ Below w.heap.size w w' := by
  go_enter Try.func71, Try.ntmps71
  go_wp2
  go_ret
  exact ⟨rfl, (Below.refl _ _).alloc (Nat.le_refl _) _⟩
set_option maxHeartbeats 400000 in
theorem index_69 (cap : Value) (p : Gap → Bool) (A : Option Addr) (n c : Nat) (l : List Gap) (w : World) (hl : l.length = n) (hn : n ≤ maxLen) (hA : Rd w w.heap.size A (cells l))
    (hF : ∀ (W : World) (x1 x2 : Int), Below w.heap.size w W → (x1, x2) ∈ l → Calls Try.prog 69 #[.agg #[.int .i64 x1, .int .i64 x2], cap] W fun e w' => e = .returned (.bool (p (x1, x2))) ∧ Below W.heap.size W w') :
    Calls Try.prog 68 #[.slice A n c, .func (.func 69) #[] #[cap]] w fun e w' => e = .returned (.int .i64 (if l.findIdx p < n then (l.findIdx p : Int) else -1)) ∧ Below w.heap.size w w' := by
  unfold maxLen at hn
  have Hl := Lib.hid hl
  have HA := Lib.hid hA
  have HF := Lib.hid hF
  clear hl hA hF
  generalize hans : (if l.findIdx p < n then (l.findIdx p : Int) else -1) = ans
  have Hans := Lib.hid hans
  clear hans
  go_enter Try.func68, Try.ntmps68
  go_wp2_with fail
  go_loopw [8] (fun i wr => ∃ (k : Nat), k ≤ n ∧ i = .int .i64 k ∧ k ≤ l.findIdx p ∧ Below w.heap.size w wr) (fun i _ => n - (intOf i).toNat)
  case atStart => exact ⟨0, by omega, rfl, by omega, Below.refl _ _⟩
  case round =>
    obtain ⟨k, hk, rfl, hi, hb⟩ := hrel
    by_cases hlt : k < n
    · obtain ⟨ad, q, x1, x2, rfl, hxk, hp, -, a1, a2⟩ := rd_at (HA.out.below hb) (k := k) (by rw [Hl.out]; exact hlt)
      have hk' : k < l.length := by rw [Hl.out]; exact hlt
      have hx : l[k]'hk' = (x1, x2) := (List.getElem?_eq_some_iff.1 hxk).2
      have HFk := Lib.hid (HF.out wr x1 x2 hb (by rw [← hx]; exact List.getElem_mem hk'))
      have hsz := hb.size
      by_cases hpx : p (x1, x2) = true
      · have Hfin : Hid (ans = (k : Int)) := Lib.hid (by
          have h1 : l.findIdx p ≤ k := by
            rcases Nat.lt_or_ge k (l.findIdx p) with h | h
            · have := List.not_of_lt_findIdx h
              rw [hx, hpx] at this
              cases this
            · exact h
          rw [← Hans.out, if_pos (by omega)]
          omega)
        rw [hpx] at HFk
        clear hxk hx hpx hk'
        go_wp2_with (go_at_call 69; refine HFk.out.mono ?_; rintro e' w2 ⟨rfl, hb2⟩)
        go_ret
        exact ⟨ret_int Hfin.out.symm, hb.trans (hb2.mono hsz)⟩
      · have hpx' : p (x1, x2) = false := by simpa using hpx
        have Hfin : Hid (k + 1 ≤ l.findIdx p) := Lib.hid (by
          rcases Nat.lt_or_ge k (l.findIdx p) with h | h
          · exact h
          · have e : k = l.findIdx p := by omega
            have := List.findIdx_getElem (p := p) (xs := l) (w := by omega)
            simp only [← e] at this
            rw [hx, hpx'] at this
            cases this)
        rw [hpx'] at HFk
        clear hxk hx hpx hpx' hk'
        go_wp2_with (go_at_call 69; refine HFk.out.mono ?_; rintro e' w2 ⟨rfl, hb2⟩)
        go_roundw
        case rel => exact ⟨k + 1, by omega, by go_num, Hfin.out, hb.trans (hb2.mono hsz)⟩
        case measure => simp [intOf]; omega
    · obtain rfl : k = n := by omega
      have Hfin : Hid (ans = -1) := Lib.hid (by
        rw [← Hans.out, if_neg (by omega)])
      go_wp2_with fail
      go_ret
      exact ⟨ret_int Hfin.out.symm, hb⟩
set_option maxHeartbeats 400000 in
theorem index_71 (cap : Value) (p : Gap → Bool) (A : Option Addr) (n c : Nat) (l : List Gap) (w : World) (hl : l.length = n) (hn : n ≤ maxLen) (hA : Rd w w.heap.size A (cells l))
    (hF : ∀ (W : World) (x1 x2 : Int), Below w.heap.size w W → (x1, x2) ∈ l → Calls Try.prog 71 #[.agg #[.int .i64 x1, .int .i64 x2], cap] W fun e w' => e = .returned (.bool (p (x1, x2))) ∧ Below W.heap.size W w') :
    Calls Try.prog 68 #[.slice A n c, .func (.func 71) #[] #[cap]] w fun e w' => e = .returned (.int .i64 (if l.findIdx p < n then (l.findIdx p : Int) else -1)) ∧ Below w.heap.size w w' := by
  unfold maxLen at hn
  have Hl := Lib.hid hl
  have HA := Lib.hid hA
  have HF := Lib.hid hF
  clear hl hA hF
  generalize hans : (if l.findIdx p < n then (l.findIdx p : Int) else -1) = ans
  have Hans := Lib.hid hans
  clear hans
  go_enter Try.func68, Try.ntmps68
  go_wp2_with fail
  go_loopw [8] (fun i wr => ∃ (k : Nat), k ≤ n ∧ i = .int .i64 k ∧ k ≤ l.findIdx p ∧ Below w.heap.size w wr) (fun i _ => n - (intOf i).toNat)
  case atStart => exact ⟨0, by omega, rfl, by omega, Below.refl _ _⟩
  case round =>
    obtain ⟨k, hk, rfl, hi, hb⟩ := hrel
    by_cases hlt : k < n
    · obtain ⟨ad, q, x1, x2, rfl, hxk, hp, -, a1, a2⟩ := rd_at (HA.out.below hb) (k := k) (by rw [Hl.out]; exact hlt)
      have hk' : k < l.length := by rw [Hl.out]; exact hlt
      have hx : l[k]'hk' = (x1, x2) := (List.getElem?_eq_some_iff.1 hxk).2
      have HFk := Lib.hid (HF.out wr x1 x2 hb (by rw [← hx]; exact List.getElem_mem hk'))
      have hsz := hb.size
      by_cases hpx : p (x1, x2) = true
      · have Hfin : Hid (ans = (k : Int)) := Lib.hid (by
          have h1 : l.findIdx p ≤ k := by
            rcases Nat.lt_or_ge k (l.findIdx p) with h | h
            · have := List.not_of_lt_findIdx h
              rw [hx, hpx] at this
              cases this
            · exact h
          rw [← Hans.out, if_pos (by omega)]
          omega)
        rw [hpx] at HFk
        clear hxk hx hpx hk'
        go_wp2_with (go_at_call 71; refine HFk.out.mono ?_; rintro e' w2 ⟨rfl, hb2⟩)
        go_ret
        exact ⟨ret_int Hfin.out.symm, hb.trans (hb2.mono hsz)⟩
      · have hpx' : p (x1, x2) = false := by simpa using hpx
        have Hfin : Hid (k + 1 ≤ l.findIdx p) := Lib.hid (by
          rcases Nat.lt_or_ge k (l.findIdx p) with h | h
          · exact h
          · have e : k = l.findIdx p := by omega
            have := List.findIdx_getElem (p := p) (xs := l) (w := by omega)
            simp only [← e] at this
            rw [hx, hpx'] at this
            cases this)
        rw [hpx'] at HFk
        clear hxk hx hpx hpx' hk'
        go_wp2_with (go_at_call 71; refine HFk.out.mono ?_; rintro e' w2 ⟨rfl, hb2⟩)
        go_roundw
        case rel => exact ⟨k + 1, by omega, by go_num, Hfin.out, hb.trans (hb2.mono hsz)⟩
        case measure => simp [intOf]; omega
    · obtain rfl : k = n := by omega
      have Hfin : Hid (ans = -1) := Lib.hid (by
        rw [← Hans.out, if_neg (by omega)])
      go_wp2_with fail
      go_ret
      exact ⟨ret_int Hfin.out.symm, hb⟩
set_option maxHeartbeats 400000 in
theorem index_65 (cap : Value) (p : Gap → Bool) (A : Option Addr) (n c : Nat) (l : List Gap) (w : World) (hl : l.length = n) (hn : n ≤ maxLen) (hA : Rd w w.heap.size A (cells l))
    (hF : ∀ (W : World) (x1 x2 : Int), Below w.heap.size w W → (x1, x2) ∈ l → Calls Try.prog 65 #[.agg #[.int .i64 x1, .int .i64 x2], cap] W fun e w' => e = .returned (.bool (p (x1, x2))) ∧ Below W.heap.size W w') :
    Calls Try.prog 68 #[.slice A n c, .func (.func 65) #[] #[cap]] w fun e w' => e = .returned (.int .i64 (if l.findIdx p < n then (l.findIdx p : Int) else -1)) ∧ Below w.heap.size w w' := by
  unfold maxLen at hn
  have Hl := Lib.hid hl
  have HA := Lib.hid hA
  have HF := Lib.hid hF
  clear hl hA hF
  generalize hans : (if l.findIdx p < n then (l.findIdx p : Int) else -1) = ans
  have Hans := Lib.hid hans
  clear hans
  go_enter Try.func68, Try.ntmps68
  go_wp2_with fail
  go_loopw [8] (fun i wr => ∃ (k : Nat), k ≤ n ∧ i = .int .i64 k ∧ k ≤ l.findIdx p ∧ Below w.heap.size w wr) (fun i _ => n - (intOf i).toNat)
  case atStart => exact ⟨0, by omega, rfl, by omega, Below.refl _ _⟩
  case round =>
    obtain ⟨k, hk, rfl, hi, hb⟩ := hrel
    by_cases hlt : k < n
    · obtain ⟨ad, q, x1, x2, rfl, hxk, hp, -, a1, a2⟩ := rd_at (HA.out.below hb) (k := k) (by rw [Hl.out]; exact hlt)
      have hk' : k < l.length := by rw [Hl.out]; exact hlt
      have hx : l[k]'hk' = (x1, x2) := (List.getElem?_eq_some_iff.1 hxk).2
      have HFk := Lib.hid (HF.out wr x1 x2 hb (by rw [← hx]; exact List.getElem_mem hk'))
      have hsz := hb.size
      by_cases hpx : p (x1, x2) = true
      · have Hfin : Hid (ans = (k : Int)) := Lib.hid (by
          have h1 : l.findIdx p ≤ k := by
            rcases Nat.lt_or_ge k (l.findIdx p) with h | h
            · have := List.not_of_lt_findIdx h
              rw [hx, hpx] at this
              cases this
            · exact h
          rw [← Hans.out, if_pos (by omega)]
          omega)
        rw [hpx] at HFk
        clear hxk hx hpx hk'
        go_wp2_with (go_at_call 65; refine HFk.out.mono ?_; rintro e' w2 ⟨rfl, hb2⟩)
        go_ret
        exact ⟨ret_int Hfin.out.symm, hb.trans (hb2.mono hsz)⟩
      · have hpx' : p (x1, x2) = false := by simpa using hpx
        have Hfin : Hid (k + 1 ≤ l.findIdx p) := Lib.hid (by
          rcases Nat.lt_or_ge k (l.findIdx p) with h | h
          · exact h
          · have e : k = l.findIdx p := by omega
            have := List.findIdx_getElem (p := p) (xs := l) (w := by omega)
            simp only [← e] at this
            rw [hx, hpx'] at this
            cases this)
        rw [hpx'] at HFk
        clear hxk hx hpx hpx' hk'
        go_wp2_with (go_at_call 65; refine HFk.out.mono ?_; rintro e' w2 ⟨rfl, hb2⟩)
        go_roundw
        case rel => exact ⟨k + 1, by omega, by go_num, Hfin.out, hb.trans (hb2.mono hsz)⟩
        case measure => simp [intOf]; omega
    · obtain rfl : k = n := by omega
      have Hfin : Hid (ans = -1) := Lib.hid (by
        rw [← Hans.out, if_neg (by omega)])
      go_wp2_with fail
      go_ret
      exact ⟨ret_int Hfin.out.symm, hb⟩
end Go.Proofs.Ytinjfmcmjhehoaa.gaps
