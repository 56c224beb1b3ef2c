/-
  Lists of numbers in memory, and contracts of slices.IndexFunc and slices.ContainsFunc over numbers with the closure of Play. No condition but the list as it stands in memory.
-/
import Derived.Test.YtinjfmcmjhehoaaGapO
namespace Go.Proofs.Ytinjfmcmjhehoaa.gaps
open Go.ChangeShapes Go.WideShapes Go.ChangeAt Go.RowKit
open M G
set_option linter.unusedVariables false
/-! ### lists of numbers in memory -/
def ints (l : List Int) : List Value := l.map (.int .i64)
theorem ints_length (l : List Int) : (ints l).length = l.length := by simp [ints]
theorem ints_append (a b : List Int) : ints (a ++ b) = ints a ++ ints b := by simp [ints]
theorem ints_one (l : List Int) : ∀ u ∈ ints l, u.oneCell' = true := by
  intro u hu
  obtain ⟨x, _, rfl⟩ := List.mem_map.1 hu
  rfl
theorem rd_int {w : World} {B : Nat} {A : Option Addr} {l : List Int} (h : Rd w B A (ints l)) {k : Nat} (hk : k < l.length) :
    ∃ ad p x, A = some ad ∧ l[k]? = some x ∧ ad.add k = p ∧ p.block < B ∧ w.cell? p = some (.int .i64 x) := by
  obtain ⟨ad, e, hb, hc⟩ := h (by intro h0; have h1 := ints_length l; rw [h0, List.length_nil] at h1; omega)
  refine ⟨ad, ad.add k, l[k], e, List.getElem?_eq_getElem hk, rfl, ?_, ?_⟩
  · rw [M.block_add]; exact hb
  · exact hc k _ (by simp [ints, List.getElem?_eq_getElem hk])
def badSize (n : Int) : Bool := decide (n < -16777216) || decide (16777216 < n)
theorem close_play (n : Int) (w : World) : Calls Try.prog 61 #[.int .i64 n] w fun e w' => e = .returned (.bool (badSize n)) ∧ Below w.heap.size w w' := by
  unfold badSize
  by_cases h : n < -16777216
  · rw [show (decide (n < -16777216) || decide (16777216 < n)) = true from by simp [h]]
    go_enter Try.func61, Try.ntmps61
    go_wp2
    go_ret
    exact ⟨rfl, Below.refl _ _⟩
  · rw [show (decide (n < -16777216) || decide (16777216 < n)) = decide (16777216 < n) from by simp [h]]
    go_enter Try.func61, Try.ntmps61
    go_wp2
    go_ret
    exact ⟨rfl, Below.refl _ _⟩
set_option maxHeartbeats 400000 in
theorem index_61 (A : Option Addr) (n c : Nat) (l : List Int) (w : World) (hl : l.length = n) (hn : n ≤ maxLen) (hA : Rd w w.heap.size A (ints l)) :
    Calls Try.prog 70 #[.slice A n c, .func (.func 61) #[] #[]] w fun e w' => e = .returned (.int .i64 (if l.findIdx badSize < n then (l.findIdx badSize : Int) else -1)) ∧ Below w.heap.size w w' := by
  unfold maxLen at hn
  have Hl := Lib.hid hl
  have HA := Lib.hid hA
  clear hl hA
  generalize hans : (if l.findIdx badSize < n then (l.findIdx badSize : Int) else -1) = ans
  have Hans := Lib.hid hans
  clear hans
  go_enter Try.func70, Try.ntmps70
  go_wp2_with fail
  go_loopw [8] (fun i wr => ∃ (k : Nat), k ≤ n ∧ i = .int .i64 k ∧ k ≤ l.findIdx badSize ∧ Below w.heap.size w wr) (fun i _ => n - (intOf i).toNat)
  case atStart => exact ⟨0, by omega, rfl, by omega, Below.refl _ _⟩
  case round =>
    obtain ⟨k, hk, rfl, hi, hb⟩ := hrel
    by_cases hlt : k < n
    · obtain ⟨ad, q, x, rfl, hxk, hp, -, a1⟩ := rd_int (HA.out.below hb) (k := k) (by rw [Hl.out]; exact hlt)
      have hk' : k < l.length := by rw [Hl.out]; exact hlt
      have hx : l[k]'hk' = x := (List.getElem?_eq_some_iff.1 hxk).2
      have hsz := hb.size
      have HF := Lib.hid (close_play x wr)
      by_cases hpx : badSize x = true
      · have Hfin : Hid (ans = (k : Int)) := Lib.hid (by
          have h1 : l.findIdx badSize ≤ k := by
            rcases Nat.lt_or_ge k (l.findIdx badSize) with h | h
            · have := List.not_of_lt_findIdx h
              rw [hx, hpx] at this
              cases this
            · exact h
          rw [← Hans.out, if_pos (by omega)]
          omega)
        rw [hpx] at HF
        clear hxk hx hpx hk'
        go_wp2_with (go_at_call 61; refine HF.out.mono ?_; rintro e' w2 ⟨rfl, hb2⟩)
        go_ret
        exact ⟨ret_int Hfin.out.symm, hb.trans (hb2.mono hsz)⟩
      · have hpx' : badSize x = false := by simpa using hpx
        have Hfin : Hid (k + 1 ≤ l.findIdx badSize) := Lib.hid (by
          rcases Nat.lt_or_ge k (l.findIdx badSize) with h | h
          · exact h
          · have e : k = l.findIdx badSize := by omega
            have := List.findIdx_getElem (p := badSize) (xs := l) (w := by omega)
            simp only [← e] at this
            rw [hx, hpx'] at this
            cases this)
        rw [hpx'] at HF
        clear hxk hx hpx hpx' hk'
        go_wp2_with (go_at_call 61; refine HF.out.mono ?_; rintro e' w2 ⟨rfl, hb2⟩)
        go_roundw
        case rel => exact ⟨k + 1, by omega, by go_num, Hfin.out, hb.trans (hb2.mono hsz)⟩
        case measure => simp [intOf]; omega
    · obtain rfl : k = n := by omega
      go_wp2_with fail
      go_ret
      exact ⟨ret_int (by rw [← Hans.out, if_neg (by omega)]), hb⟩
theorem contains_61 (A : Option Addr) (n c : Nat) (l : List Int) (w : World) (hl : l.length = n) (hn : n ≤ maxLen) (hA : Rd w w.heap.size A (ints l)) :
    Calls Try.prog 60 #[.slice A n c, .func (.func 61) #[] #[]] w fun e w' => e = .returned (.bool (l.any badSize)) ∧ Below w.heap.size w w' := by
  have HI := Lib.hid (index_61 A n c l w hl hn hA)
  rw [show l.any badSize = decide (l.findIdx badSize < n) from by rw [← hl, Bool.eq_iff_iff, decide_eq_true_iff, List.any_eq_true, List.findIdx_lt_length]]
  by_cases h : l.findIdx badSize < n
  · rw [if_pos h] at HI
    rw [show decide (l.findIdx badSize < n) = true from by simp [h]]
    clear hl hn hA
    generalize l.findIdx badSize = k at *
    clear h
    go_enter Try.func60, Try.ntmps60
    go_wp2_with (go_at_call 70; refine HI.out.mono ?_; rintro e w1 ⟨rfl, hb1⟩)
    go_ret
    exact ⟨rfl, hb1⟩
  · rw [if_neg h] at HI
    rw [show decide (l.findIdx badSize < n) = false from by simp [h]]
    clear hl hn hA h
    go_enter Try.func60, Try.ntmps60
    go_wp2_with (go_at_call 70; refine HI.out.mono ?_; rintro e w1 ⟨rfl, hb1⟩)
    go_ret
    exact ⟨rfl, hb1⟩
end Go.Proofs.Ytinjfmcmjhehoaa.gaps
