/-
  Contracts of gap.Play for all inputs, of the helpers of the laws (Ints, SameInts, fits) and of the chapter's example. No condition but the lists as they stand in memory.
-/
import Derived.Test.YtinjfmcmjhehoaaGapS
namespace Go.Proofs.Ytinjfmcmjhehoaa.gaps
open Go.ChangeShapes Go.WideShapes Go.ChangeAt Go.RowKit
open M G
set_option linter.unusedVariables false
theorem Play_any (t : Int) (A : Option Addr) (n c : Nat) (ns : List Int) (w : World) (hl : ns.length = n) (hn : n ≤ maxLen) (hA : Rd w w.heap.size A (ints ns)) :
    Calls Try.prog 45 #[.int .i64 t, .slice A n c] w (PlayS w (playR t ns)) := by
  unfold playR
  by_cases ht : okTotal t = true
  · have hN : Hid (Calls Try.prog 36 #[.int .i64 t] w fun e w' => ∃ A c, e = .returned (.tuple #[.slice A (newL t).length c, .int .i64 0]) ∧ Below w.heap.size w w') :=
      Lib.hid ((new_s t w).mono fun e w' ⟨A, c, he, _, _, hb⟩ => ⟨A, c, by rw [he, newE_ok ht], hb⟩)
    rw [if_neg (by simp [newE_ok ht])]
    by_cases h1 : 4096 < n
    · rw [if_pos (by omega)]
      have hnm : n ≤ maxLen := hn
      unfold maxLen at hn
      clear hA hl
      go_enter Try.func45, Try.ntmps45
      go_wp2_with (go_at_call 36; refine hN.out.mono ?_; rintro e w1 ⟨A1, c1, rfl, hb1⟩)
      go_ret3
      exact nil_play _ _ _ hb1
    · rw [if_neg (by omega)]
      by_cases h2 : ns.any badSize = true
      · rw [if_pos h2]
        have HC : Hid (∀ W : World, Below w.heap.size w W → Calls Try.prog 60 #[.slice A n c, .func (.func 61) #[] #[]] W fun e w' => e = .returned (.bool true) ∧ Below W.heap.size W w') :=
          Lib.hid (fun W hb => by have := contains_61 A n c ns W hl hn ((hA.below hb).more hb.size); rwa [h2] at this)
        clear hA hl h2
        unfold maxLen at hn
        go_enter Try.func45, Try.ntmps45
        go_wp2_with (first
          | (go_at_call 36; refine hN.out.mono ?_; rintro e w1 ⟨A1, c1, rfl, hb1⟩)
          | (go_at_call 60; refine (HC.out _ hb1).mono ?_; rintro e w2 ⟨rfl, hb2⟩))
        go_ret3
        exact nil_play _ _ _ (hb1.trans (hb2.mono hb1.size))
      · rw [if_neg h2]
        exact Play_ok t A n c ns w hl (by omega) hA ht (by simpa using h2)
  · have ht' : okTotal t = false := by simpa using ht
    rw [if_pos (by simp [newE_bad ht']), newE_bad ht']
    have hN : Hid (Calls Try.prog 36 #[.int .i64 t] w fun e w' => ∃ A c, e = .returned (.tuple #[.slice A (newL t).length c, .int .i64 1]) ∧ Below w.heap.size w w') :=
      Lib.hid ((new_s t w).mono fun e w' ⟨A, c, he, _, _, hb⟩ => ⟨A, c, by rw [he, newE_bad ht'], hb⟩)
    clear hA hl ht ht' hn
    go_enter Try.func45, Try.ntmps45
    go_wp2_with (go_at_call 36; refine hN.out.mono ?_; rintro e w1 ⟨A1, c1, rfl, hb1⟩)
    go_ret3
    exact nil_play _ _ _ hb1
/-! ### the helpers of the laws -/
theorem sameInts_self (A B : Option Addr) (n c d : Nat) (hn : n ≤ maxLen) (w : World) (xs : List Int) (hx : xs.length = n) (hA : Rd w w.heap.size A (ints xs)) (hB : Rd w w.heap.size B (ints xs)) :
    Calls Try.prog 59 #[.slice A n c, .slice B n d] w fun e w' => e = .returned (.bool true) ∧ Below w.heap.size w w' := by
  unfold maxLen at hn
  have hb : ((n : Int) != n) = false := by simp
  have Hx := Lib.hid hx
  clear hx
  go_enter Try.func59, Try.ntmps59
  go_wp2
  go_loopw [5] (fun i wr => ∃ k : Nat, k ≤ n ∧ i = .int .i64 k ∧ ∃ q, wr = w.drewN q) (fun i _ => n - (intOf i).toNat)
  case atStart => exact ⟨0, by omega, rfl, 0, rfl⟩
  case round =>
    obtain ⟨k, hk, rfl, q, rfl⟩ := hrel
    by_cases hlt : k < n
    · obtain ⟨ada, p, x1, rfl, hxk, hp, -, a1⟩ := rd_int hA (k := k) (by rw [Hx.out]; exact hlt)
      obtain ⟨adb, p', y1, rfl, hyk, hp', -, b1⟩ := rd_int hB (k := k) (by rw [Hx.out]; exact hlt)
      rw [hxk] at hyk
      injection hyk with hyk
      subst hyk
      clear hxk hA hB
      have hd1 : (x1 != x1) = false := by simp
      go_wp2
      go_quiet (fail)
      go_wp2
      go_roundw
      case rel => exact ⟨k + 1, by omega, by go_num, _, rfl⟩
      case measure => simp [intOf]; omega
    · obtain rfl : k = n := by omega
      go_wp2
      go_ret
      exact ⟨rfl, below_drewN (Below.refl _ _) _⟩
theorem own_empty_int (w : World) (B : Nat) (hB : B ≤ w.heap.size) : (w.alloc (.cells #[] 3)).ownsRow B 3 1 (.slice (some ⟨w.heap.size, 0, none⟩) 0 0) 0 [] :=
  own_base (World.ownsRow_lit (size := 1) (e := 3) w #[] 0 (Nat.le_refl _) (by simp [maxLen]) rfl) hB
theorem ints_any (A : Option Addr) (n c : Nat) (l : List Int) (w : World) (hl : l.length = n) (hn : n * 8 ≤ 140737488355328) (hA : Rd w w.heap.size A (ints l)) :
    Calls Try.prog 44 #[.slice A n c] w fun e w' => ∃ A' c', e = .returned (.slice A' n c') ∧ n ≤ c' ∧ c' ≤ maxLen ∧ w'.ownsRow w.heap.size 3 1 (.slice A' n c') n (ints l) ∧ Below w.heap.size w w' := by
  obtain ⟨i1, hj, hy0, hy1, hy2⟩ := info_parts info3
  have HA := Lib.hid hA
  have Hl := Lib.hid hl
  clear hA hl
  go_enter Try.func44, Try.ntmps44
  go_wp2_with (at_builtin; refine wpList_append_rs _ rfl (.tmp 3) (.tmp 4) 49 rfl w.heap.size 3 i1 _ 1 8 Try.underlying49 hj hy0 hy1 hy2 rfl (by omega) (.slice (some ⟨w.heap.size, 0, none⟩) 0 0) 0 [] rfl (own_empty_int w _ (Nat.le_refl _)) _ A n c (ints l) rfl (by rw [ints_length, Hl.out]; omega) (HA.out.alloc (Nat.le_refl _) _) (ints_one _) (by simp only [maxLen]; omega) (by omega) (by simp) ?_; intro A0 c0 w0 hq0 hm0 hown0 hg0 hat0; simp only [Nat.zero_add, List.nil_append] at hown0 hq0)
  go_ret
  exact ⟨A0, c0, rfl, hq0, hm0, hown0, ((Below.refl _ _).alloc (Nat.le_refl _) _).grown hg0 (by simp) (fun g hg => by have := lit_block hg; omega)⟩
theorem fits_any (A : Option Addr) (n c : Nat) (l : List Int) (w : World) (hl : l.length = n) (hn : n ≤ maxLen) (hA : Rd w w.heap.size A (ints l)) :
    Calls Try.prog 46 #[.slice A n c] w fun e w' => e = .returned (.bool (!l.any badSize)) ∧ Below w.heap.size w w' := by
  unfold maxLen at hn
  have Hl := Lib.hid hl
  have HA := Lib.hid hA
  clear hl hA
  generalize hans : (!l.any badSize) = ans
  have Hans := Lib.hid hans
  clear hans
  go_enter Try.func46, Try.ntmps46
  go_wp2_with fail
  go_loop [3] (fun i => ∃ (k : Nat), k ≤ n ∧ i = .int .i64 k ∧ ∀ x ∈ l.take k, badSize x = false) (fun i => n - (intOf i).toNat)
  case atStart => exact ⟨0, by omega, rfl, by simp⟩
  case round =>
    obtain ⟨k, hk, rfl, hi⟩ := hrel
    have Hi := Lib.hid hi
    clear hi
    by_cases hlt : k < n
    · obtain ⟨ad, q, x, rfl, hxk, hp, -, a1⟩ := rd_int HA.out (k := k) (by rw [Hl.out]; exact hlt)
      have Hx := Lib.hid hxk
      clear hxk
      have Hbad : Hid (badSize x = true → ans = false) := Lib.hid (fun h => by rw [← Hans.out, Bool.not_eq_false']; exact List.any_eq_true.2 ⟨x, List.mem_of_getElem? Hx.out, h⟩)
      by_cases h1 : 16777216 < x
      · have Hb : Hid (badSize x = true) := Lib.hid (by simp [badSize]; omega)
        go_wp2_with fail
        go_ret
        exact ⟨ret_bool (Hbad.out Hb.out).symm, Below.refl _ _⟩
      · by_cases h2 : x < -16777216
        · have Hb : Hid (badSize x = true) := Lib.hid (by simp [badSize]; omega)
          go_wp2_with fail
          go_ret
          exact ⟨ret_bool (Hbad.out Hb.out).symm, Below.refl _ _⟩
        · have Hb : Hid (badSize x = false) := Lib.hid (by simp [badSize]; omega)
          go_wp2_with fail
          go_round
          case rel => exact ⟨k + 1, by omega, by go_num, fun y hy => by
            rw [List.take_add_one, Hx.out] at hy
            rcases List.mem_append.1 hy with h | h
            · exact Hi.out y h
            · have : y = x := by simpa using h
              rw [this]; exact Hb.out⟩
          case measure => simp [intOf]; omega
    · obtain rfl : k = n := by omega
      go_wp2_with fail
      go_ret
      refine ⟨ret_bool ?_, Below.refl _ _⟩
      rw [← Hans.out]
      have h := Hi.out
      rw [List.take_of_length_le (by rw [Hl.out]; omega)] at h
      symm
      rw [Bool.not_eq_true', List.any_eq_false]
      exact fun x hx => by simp [h x hx]
theorem play_example : playR 64 [10, 20, -1, 16, 40] = ([0, 16, 0, 0, -1], [(48, 16)], 0) := by decide
theorem rd_row5 (w : World) : Rd (w.alloc (.cells #[.int .i64 0, .int .i64 16, .int .i64 0, .int .i64 0, .int .i64 (-1)] 3)) (w.alloc (.cells #[.int .i64 0, .int .i64 16, .int .i64 0, .int .i64 0, .int .i64 (-1)] 3)).heap.size (some ⟨w.heap.size, 0, none⟩) (ints [0, 16, 0, 0, -1]) := fun _ =>
  ⟨_, rfl, by simp, fun j u hu => by
    rw [show (⟨w.heap.size, 0, none⟩ : Addr).add j = ⟨w.heap.size, j, none⟩ from by unfold Addr.add; split <;> simp_all, cn]
    simpa [ints] using hu⟩
theorem works_any (w : World) : Calls Try.prog 43 #[] w fun e w' => e = .returned (.bool true) ∧ Below w.heap.size w w' := by
  have HP : Hid (Calls Try.prog 45 #[.int .i64 64, .slice (some ⟨w.heap.size, 0, none⟩) 5 5] (w.alloc (.cells #[.int .i64 10, .int .i64 20, .int .i64 (-1), .int .i64 16, .int .i64 40] 3)) (fun e w' => ∃ A1 c1 A2 c2, e = .returned (.tuple #[.slice A1 5 c1, .slice A2 1 c2, .int .i64 0]) ∧ Rd w' w'.heap.size A1 (ints [0, 16, 0, 0, -1]) ∧ Rd w' w'.heap.size A2 (cells [(48, 16)]) ∧ Below w.heap.size w w')) := Lib.hid (by
    refine (Play_any 64 _ 5 5 [10, 20, -1, 16, 40] _ rfl (by simp [maxLen]) ?_).mono ?_
    · intro _
      refine ⟨_, rfl, by simp, fun j u hu => ?_⟩
      rw [show (⟨w.heap.size, 0, none⟩ : Addr).add j = ⟨w.heap.size, j, none⟩ from by unfold Addr.add; split <;> simp_all, cn]
      simpa [ints] using hu
    · rintro e w' h
      rw [play_example] at h
      obtain ⟨A1, c1, A2, c2, rfl, -, -, -, -, h1, h2, hb⟩ := h
      exact ⟨A1, c1, A2, c2, rfl, Rd.of_own h1, Rd.of_own h2, ((Below.refl _ _).alloc (Nat.le_refl _) _).trans (hb.mono (by simp))⟩)
  go_enter Try.func43, Try.ntmps43
  go_wp2_with (go_at_call 45; refine HP.out.mono ?_; rintro e w1 ⟨A1, c1, A2, c2, rfl, h1, h2, hb1⟩)
  have hs1 := hb1.size
  refine (sameInts_self A1 (some ⟨w1.heap.size, 0, none⟩) 5 c1 5 (by simp [maxLen]) _ [0, 16, 0, 0, -1] rfl ((h1.alloc (Nat.le_refl _) _).more (by simp)) (rd_row5 w1)).mono ?_
  rintro e w2 ⟨rfl, hb2⟩
  have b2 : Below w1.heap.size w1 w2 := ((Below.refl _ _).alloc (Nat.le_refl _) _).trans (hb2.mono (by simp))
  have h3 := (h2.below b2).more b2.size
  go_wp2_with fail
  refine (same_self A2 (some ⟨w2.heap.size, 0, none⟩) 1 c2 1 (by simp [maxLen]) _ [(48, 16)] rfl ((h3.alloc (Nat.le_refl _) _).more (by simp)) ((rd_new w2 48 16).more (by simp))).mono ?_
  rintro e w3 ⟨rfl, hb3⟩
  go_wp2_with fail
  go_ret
  exact ⟨rfl, (hb1.trans (b2.mono hs1)).trans ((((Below.refl _ _).alloc (Nat.le_refl _) _).trans (hb3.mono (by simp))).mono (by have := b2.size; omega))⟩
end Go.Proofs.Ytinjfmcmjhehoaa.gaps
