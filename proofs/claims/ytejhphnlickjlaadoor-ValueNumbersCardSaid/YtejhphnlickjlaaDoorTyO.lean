/-
  The contract of next of the reference's types, and of Form. No condition but lengths.
-/
import Derived.Test.YtejhphnlickjlaaDoorTyN
namespace Go.Proofs.YtejhphnlickjlaaDoor.ty
open Go.ChangeShapes Go.WideShapes Go.RowKit
open M T
set_option linter.unusedVariables false
theorem dlen_app : ∀ (d : List Int) (m : List Int), (∀ c ∈ d, isDigit c = true) → dlen (d ++ 58 :: m) = d.length
  | [], m, _ => by rw [List.nil_append, dlen_cons, if_neg (by decide)]; rfl
  | c :: d, m, h => by
    rw [List.cons_append, dlen_cons, if_pos (h c (by simp)), dlen_app d m (fun z hz => h z (by simp [hz]))]
    rfl
theorem arr_inv {l r : List Int} (h : Ty false (97 :: l) r) : whole (l.take (dlen l)) = true ∧ ∃ m, l.drop (dlen l) = 58 :: m ∧ Ty false m r := by
  obtain ⟨d, m, rfl, hw, ht⟩ := ty_arr h
  have e := dlen_app d m (fun c hc => (of_decide_eq_true hw).2.2.2.1 c hc)
  rw [e, List.take_left, List.drop_left]
  exact ⟨hw, m, rfl, ht⟩
section
variable {s : ByteArray} {n : Nat} {k : Nat} {w W : World}
theorem next_end (hs : s.size ≤ maxLen) (k : Nat) (w : World) (hk : k ≤ s.size) (hn : s.size ≤ k) : Calls Tryd.prog 87 #[.string s, .int .i64 k] w (NxS s k w) := by
  have Hno : Hid (∀ r, ¬ Ty false (sfx s k) r) := Lib.hid (fun r h => h.ne (sfx_nil s k hn))
  unfold maxLen at hs
  go_enter Tryd.func87, Tryd.ntmps87
  go_wp2_with fail
  go_ret2
  exact ⟨0, false, rfl, .not (Below.refl _ _) Hno.out⟩
set_option maxHeartbeats 800000 in
theorem next_base (hs : s.size ≤ maxLen) (k : Nat) (w : World) (hk : k ≤ s.size) (c : Int) (r : List Int) (hc : sfx s k = c :: r) (hb : baseC c = true) : Calls Tryd.prog 87 #[.string s, .int .i64 k] w (NxS s k w) := by
  obtain ⟨hlt, hcv, hr⟩ := sfx_head hc
  have Hyes : Hid (Ty false (sfx s k) (sfx s (k + 1))) := Lib.hid (by rw [hc, hr]; exact .base hb)
  have hb2 := of_decide_eq_true hb
  clear hc hr hb
  unfold maxLen at hs
  rcases hb2 with rfl | rfl | rfl | rfl | rfl | rfl
  all_goals
    go_enter Tryd.func87, Tryd.ntmps87
    go_wp2_with fail
    go_ret2
    exact ⟨_, true, rfl, .yes (k' := k + 1) (Below.refl _ _) (by omega) Hyes.out⟩
set_option maxHeartbeats 800000 in
theorem next_ptr (hs : s.size ≤ maxLen) (hP : PNx 87 s n) (k : Nat) (w : World) (hk : k ≤ s.size) (hn : s.size - k ≤ n + 1) (r : List Int) (hc : sfx s k = 112 :: r) : Calls Tryd.prog 87 #[.string s, .int .i64 k] w (NxS s k w) := by
  obtain ⟨hlt, hcv, hr⟩ := sfx_head hc
  have HRec : Hid (Calls Tryd.prog 87 #[.string s, .int .i64 ((k : Int) + 1)] w (NxS s (k + 1) w)) := Lib.hid (by
    have := hP (k + 1) w (by omega) (by omega)
    rwa [show ((k + 1 : Nat) : Int) = (k : Int) + 1 from by omega] at this)
  have Hyes : Hid (∀ k', Ty false (sfx s (k + 1)) (sfx s k') → Ty false (sfx s k) (sfx s k')) := Lib.hid (fun k' h => by rw [hc, ← hr]; exact .ptr h)
  have Hno : Hid ((∀ r, ¬ Ty false (sfx s (k + 1)) r) → ∀ r, ¬ Ty false (sfx s k) r) := Lib.hid (fun h r' ht => by rw [hc, ← hr] at ht; exact h r' (ty_ptr ht))
  clear hc hr hP
  unfold maxLen at hs
  go_enter Tryd.func87, Tryd.ntmps87
  go_wp2_with (go_at_call 87; refine HRec.out.mono ?_; rintro e w2 ⟨i, b, rfl, h2⟩; have H2 := Lib.hid (h2.lift (w := w) (k := k) (Below.refl _ _) Hyes.out Hno.out); clear h2)
  go_ret2
  exact ⟨i, b, rfl, H2.out⟩
set_option maxHeartbeats 800000 in
theorem next_fn (hs : s.size ≤ maxLen) (hP : PNx 87 s n) (k : Nat) (w : World) (hk : k ≤ s.size) (hn : s.size - k ≤ n + 1) (r : List Int) (hc : sfx s k = 102 :: r) : Calls Tryd.prog 87 #[.string s, .int .i64 k] w (NxS s k w) := by
  obtain ⟨hlt, hcv, hr⟩ := sfx_head hc
  have HRec := Lib.hid (signed_any hs hP k w hk hn r hc)
  clear hc hr hP
  unfold maxLen at hs
  go_enter Tryd.func87, Tryd.ntmps87
  go_wp2_with (go_at_call 97; refine HRec.out.mono ?_; rintro e w2 ⟨i, b, rfl, h2⟩; have H2 := Lib.hid h2; clear h2)
  go_ret2
  exact ⟨i, b, rfl, H2.out⟩
set_option maxHeartbeats 800000 in
theorem next_other (hs : s.size ≤ maxLen) (k : Nat) (w : World) (hk : k ≤ s.size) (c : Int) (r : List Int) (hc : sfx s k = c :: r) (hb : baseC c = false) (h1 : c ≠ 112) (h2 : c ≠ 97) (h3 : c ≠ 83) (h4 : c ≠ 102) : Calls Tryd.prog 87 #[.string s, .int .i64 k] w (NxS s k w) := by
  obtain ⟨hlt, hcv, hr⟩ := sfx_head hc
  have Hno : Hid (∀ r, ¬ Ty false (sfx s k) r) := Lib.hid (fun r' ht => by rw [hc] at ht; exact ty_other hb h1 h2 h3 h4 ht)
  have hb2 := of_decide_eq_false hb
  have b1 : (c == 118) = false := by rw [beq_eq_false_iff_ne]; omega
  have b2 : (c == 99) = false := by rw [beq_eq_false_iff_ne]; omega
  have b3 : (c == 115) = false := by rw [beq_eq_false_iff_ne]; omega
  have b4 : (c == 105) = false := by rw [beq_eq_false_iff_ne]; omega
  have b5 : (c == 117) = false := by rw [beq_eq_false_iff_ne]; omega
  have b6 : (c == 106) = false := by rw [beq_eq_false_iff_ne]; omega
  have b7 : (c == 112) = false := by rw [beq_eq_false_iff_ne]; omega
  have b8 : (c == 97) = false := by rw [beq_eq_false_iff_ne]; omega
  have b9 : (c == 83) = false := by rw [beq_eq_false_iff_ne]; omega
  have b10 : (c == 102) = false := by rw [beq_eq_false_iff_ne]; omega
  clear hc hr hb hb2 h1 h2 h3 h4
  unfold maxLen at hs
  go_enter Tryd.func87, Tryd.ntmps87
  go_wp2_with fail
  go_ret2
  exact ⟨0, false, rfl, .not (Below.refl _ _) Hno.out⟩
end
end Go.Proofs.YtejhphnlickjlaaDoor.ty
