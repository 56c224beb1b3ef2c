/-
  The contract of next of the reference's types: arrays, structs; next as a whole; Form. No condition but lengths.
-/
import Derived.Test.YtejhphnlickjlaaDoorTyN
set_option linter.unusedVariables false
set_option linter.unusedSimpArgs false
namespace Go.Proofs.YtejhphnlickjlaaDoor.ty
open Go.ChangeShapes Go.WideShapes Go.RowKit
open M T
set_option linter.unusedVariables false
theorem dlen_app : ∀ (d : List Int) (m : List Int), (∀ c ∈ d, isDigit c = true) → dlen (d ++ 58 :: m) = d.length
  | [], m, _ => by rw [List.nil_append, dlen_cons, if_neg (by decide)]; rfl
  | c :: d, m, h => by
    rw [List.cons_append, dlen_cons, if_pos (h c (by simp)), dlen_app d m (fun z hz => h z (by simp [hz]))]
    rfl
theorem arr_inv {l r : List Int} (h : Ty false (97 :: l) r) : whole (l.take (dlen l)) = true ∧ ∃ m, l.drop (dlen l) = 58 :: m ∧ Ty false m r := by
  obtain ⟨d, m, rfl, hw, ht⟩ := ty_arr h
  have e := dlen_app d m (fun c hc => (of_decide_eq_true hw).2.2.2.1 c hc)
  rw [e, List.take_left, List.drop_left]
  exact ⟨hw, m, rfl, ht⟩
section
variable {s : ByteArray} {n : Nat} {k : Nat} {w W : World}
theorem next_end (hs : s.size ≤ maxLen) (k : Nat) (w : World) (hk : k ≤ s.size) (hn : s.size ≤ k) : Calls Tryd.prog 87 #[.string s, .int .i64 k] w (NxS s k w) := by
  have Hno : Hid (∀ r, ¬ Ty false (sfx s k) r) := Lib.hid (fun r h => h.ne (sfx_nil s k hn))
  unfold maxLen at hs
  go_enter Tryd.func87, Tryd.ntmps87
  go_wp2_with fail
  go_ret2
  exact ⟨0, false, rfl, .not (Below.refl _ _) Hno.out⟩
set_option maxHeartbeats 800000 in
theorem next_base (hs : s.size ≤ maxLen) (k : Nat) (w : World) (hk : k ≤ s.size) (c : Int) (r : List Int) (hc : sfx s k = c :: r) (hb : baseC c = true) : Calls Tryd.prog 87 #[.string s, .int .i64 k] w (NxS s k w) := by
  obtain ⟨hlt, hcv, hr⟩ := sfx_head hc
  have Hyes : Hid (Ty false (sfx s k) (sfx s (k + 1))) := Lib.hid (by rw [hc, hr]; exact .base hb)
  have hb2 := of_decide_eq_true hb
  clear hc hr hb
  unfold maxLen at hs
  rcases hb2 with rfl | rfl | rfl | rfl | rfl | rfl
  all_goals
    go_enter Tryd.func87, Tryd.ntmps87
    go_wp2_with fail
    go_ret2
    exact ⟨_, true, rfl, .yes (k' := k + 1) (Below.refl _ _) (by omega) Hyes.out⟩
set_option maxHeartbeats 800000 in
theorem next_ptr (hs : s.size ≤ maxLen) (hP : PNx 87 s n) (k : Nat) (w : World) (hk : k ≤ s.size) (hn : s.size - k ≤ n + 1) (r : List Int) (hc : sfx s k = 112 :: r) : Calls Tryd.prog 87 #[.string s, .int .i64 k] w (NxS s k w) := by
  obtain ⟨hlt, hcv, hr⟩ := sfx_head hc
  have HRec : Hid (Calls Tryd.prog 87 #[.string s, .int .i64 ((k : Int) + 1)] w (NxS s (k + 1) w)) := Lib.hid (by
    have := hP (k + 1) w (by omega) (by omega)
    rwa [show ((k + 1 : Nat) : Int) = (k : Int) + 1 from by omega] at this)
  have Hyes : Hid (∀ k', Ty false (sfx s (k + 1)) (sfx s k') → Ty false (sfx s k) (sfx s k')) := Lib.hid (fun k' h => by rw [hc, ← hr]; exact .ptr h)
  have Hno : Hid ((∀ r, ¬ Ty false (sfx s (k + 1)) r) → ∀ r, ¬ Ty false (sfx s k) r) := Lib.hid (fun h r' ht => by rw [hc, ← hr] at ht; exact h r' (ty_ptr ht))
  clear hc hr hP
  unfold maxLen at hs
  go_enter Tryd.func87, Tryd.ntmps87
  go_wp2_with (go_at_call 87; refine HRec.out.mono ?_; rintro e w2 ⟨i, b, rfl, h2⟩; have H2 := Lib.hid (h2.lift (w := w) (k := k) (Below.refl _ _) Hyes.out Hno.out); clear h2)
  go_ret2
  exact ⟨i, b, rfl, H2.out⟩
set_option maxHeartbeats 800000 in
theorem next_fn (hs : s.size ≤ maxLen) (hP : PNx 87 s n) (k : Nat) (w : World) (hk : k ≤ s.size) (hn : s.size - k ≤ n + 1) (r : List Int) (hc : sfx s k = 102 :: r) : Calls Tryd.prog 87 #[.string s, .int .i64 k] w (NxS s k w) := by
  obtain ⟨hlt, hcv, hr⟩ := sfx_head hc
  have HRec := Lib.hid (signed_any hs hP k w hk hn r hc)
  clear hc hr hP
  unfold maxLen at hs
  go_enter Tryd.func87, Tryd.ntmps87
  go_wp2_with (go_at_call 97; refine HRec.out.mono ?_; rintro e w2 ⟨i, b, rfl, h2⟩; have H2 := Lib.hid h2; clear h2)
  go_ret2
  exact ⟨i, b, rfl, H2.out⟩
set_option maxHeartbeats 800000 in
theorem next_other (hs : s.size ≤ maxLen) (k : Nat) (w : World) (hk : k ≤ s.size) (c : Int) (r : List Int) (hc : sfx s k = c :: r) (hb : baseC c = false) (h1 : c ≠ 112) (h2 : c ≠ 97) (h3 : c ≠ 83) (h4 : c ≠ 102) : Calls Tryd.prog 87 #[.string s, .int .i64 k] w (NxS s k w) := by
  obtain ⟨hlt, hcv, hr⟩ := sfx_head hc
  have Hno : Hid (∀ r, ¬ Ty false (sfx s k) r) := Lib.hid (fun r' ht => by rw [hc] at ht; exact ty_other hb h1 h2 h3 h4 ht)
  have hb2 := of_decide_eq_false hb
  have b1 : (c == 118) = false := by rw [beq_eq_false_iff_ne]; omega
  have b2 : (c == 99) = false := by rw [beq_eq_false_iff_ne]; omega
  have b3 : (c == 115) = false := by rw [beq_eq_false_iff_ne]; omega
  have b4 : (c == 105) = false := by rw [beq_eq_false_iff_ne]; omega
  have b5 : (c == 117) = false := by rw [beq_eq_false_iff_ne]; omega
  have b6 : (c == 106) = false := by rw [beq_eq_false_iff_ne]; omega
  have b7 : (c == 112) = false := by rw [beq_eq_false_iff_ne]; omega
  have b8 : (c == 97) = false := by rw [beq_eq_false_iff_ne]; omega
  have b9 : (c == 83) = false := by rw [beq_eq_false_iff_ne]; omega
  have b10 : (c == 102) = false := by rw [beq_eq_false_iff_ne]; omega
  clear hc hr hb hb2 h1 h2 h3 h4
  unfold maxLen at hs
  go_enter Tryd.func87, Tryd.ntmps87
  go_wp2_with fail
  go_ret2
  exact ⟨0, false, rfl, .not (Below.refl _ _) Hno.out⟩
end
end Go.Proofs.YtejhphnlickjlaaDoor.ty
namespace Go.Proofs.YtejhphnlickjlaaDoor.ty
open Go.ChangeShapes Go.WideShapes Go.RowKit
open M T
set_option linter.unusedVariables false
section
variable {s : ByteArray} {n : Nat} {k : Nat} {w W : World}
theorem extract_size (s : ByteArray) (j m : Nat) (h : m ≤ s.size) : (s.extract j m).size = m - j := by
  have := nums_length (s.extract j m)
  rw [nums_extract s j m h, List.length_take, sfx_length] at this
  omega
set_option maxHeartbeats 1600000 in
theorem next_arr (hs : s.size ≤ maxLen) (hP : PNx 87 s n) (k : Nat) (w : World) (hk : k ≤ s.size) (hn : s.size - k ≤ n + 1) (r : List Int) (hc : sfx s k = 97 :: r) : Calls Tryd.prog 87 #[.string s, .int .i64 k] w (NxS s k w) := by
  obtain ⟨hlt, hcv, hr⟩ := sfx_head hc
  obtain ⟨j, hj⟩ : ∃ j, j = k + 1 := ⟨_, rfl⟩
  have hjI : (k : Int) + 1 = (j : Int) := by omega
  rw [← hj] at hr
  have HD := Lib.hid (digits_any s j w (by omega) hs)
  obtain ⟨m, hm⟩ : ∃ m, m = j + dlen (sfx s j) := ⟨_, rfl⟩
  rw [← hm] at HD
  have hdl := dlen_le (sfx s j)
  rw [sfx_length] at hdl
  have hjm : j ≤ m := by omega
  have hms : m ≤ s.size := by omega
  have z1 : (j : Int) ≤ (m : Int) := by omega
  have z2 : (m : Int) ≤ (s.size : Int) := by omega
  have hkm : k < m := by omega
  have Hd : Hid (nums (s.extract j m) = (sfx s j).take (dlen (sfx s j))) := Lib.hid (by rw [nums_extract s j m hms]; congr 1; omega)
  have Hm : Hid (sfx s m = (sfx s j).drop (dlen (sfx s j))) := Lib.hid (by rw [hm, sfx_add])
  have HW := Lib.hid (Whole_any (s.extract j m) w (by have := extract_size s j m hms; unfold maxLen at hs ⊢; omega))
  have HK : Hid (sfx s k = 97 :: sfx s j) := Lib.hid (by rw [hc, hr])
  have hsz : (s.extract j m).size ≤ s.size := by rw [extract_size s j m hms]; omega
  by_cases hw : whole (nums (s.extract j m)) = true
  · rw [hw] at HW
    by_cases hml : m < s.size
    · by_cases h58 : (s[m].toNat : Int) = 58
      · have e58 : ((s[m].toNat : Int) != 58) = false := by simp; omega
        have Hx : Hid (sfx s m = 58 :: sfx s (m + 1)) := Lib.hid (by rw [sfx_cons s m hml, h58])
        have HRec : Hid (∀ W, Below w.heap.size w W → Calls Tryd.prog 87 #[.string s, .int .i64 ((m : Int) + 1)] W (NxS s (m + 1) W)) := Lib.hid (fun W _ => by
          have := hP (m + 1) W (by omega) (by omega)
          rwa [show ((m + 1 : Nat) : Int) = (m : Int) + 1 from by omega] at this)
        have Hyes : Hid (∀ k', Ty false (sfx s (m + 1)) (sfx s k') → Ty false (sfx s k) (sfx s k')) := Lib.hid (fun k' h => by
          rw [HK.out, ← List.take_append_drop (dlen (sfx s j)) (sfx s j), ← Hd.out, ← Hm.out, Hx.out]
          exact .arr hw h)
        have Hno : Hid ((∀ r, ¬ Ty false (sfx s (m + 1)) r) → ∀ r, ¬ Ty false (sfx s k) r) := Lib.hid (fun h r' ht => by
          rw [HK.out] at ht
          obtain ⟨_, x, e, hx⟩ := arr_inv ht
          rw [← Hm.out, Hx.out] at e
          injection e with _ e
          rw [← e] at hx
          exact h _ hx)
        clear hc hr hP hj hm hdl hw h58
        unfold maxLen at hs
        go_enter Tryd.func87, Tryd.ntmps87
        go_wp2_with (first
          | (go_at_call 94; refine HD.out.mono ?_; rintro e w2 ⟨rfl, rfl⟩)
          | (go_at_call 95; refine HW.out.mono ?_; rintro e w3 ⟨⟨v, rfl⟩, hb3⟩)
          | (go_at_call 87; refine (HRec.out _ hb3).mono ?_; rintro e w4 ⟨i, b, rfl, h2⟩; have H2 := Lib.hid (h2.lift (k := k) hb3 Hyes.out Hno.out); clear h2))
        go_ret2
        exact ⟨i, b, rfl, H2.out⟩
      · have e58 : ((s[m].toNat : Int) != 58) = true := by simp; omega
        have Hno : Hid (∀ r, ¬ Ty false (sfx s k) r) := Lib.hid (fun r' ht => by
          rw [HK.out] at ht
          obtain ⟨_, x, e, hx⟩ := arr_inv ht
          rw [← Hm.out, sfx_cons s m hml] at e
          injection e with e _
          exact h58 e)
        clear hc hr hP hj hm hdl hw h58
        unfold maxLen at hs
        go_enter Tryd.func87, Tryd.ntmps87
        go_wp2_with (first
          | (go_at_call 94; refine HD.out.mono ?_; rintro e w2 ⟨rfl, rfl⟩)
          | (go_at_call 95; refine HW.out.mono ?_; rintro e w3 ⟨⟨v, rfl⟩, hb3⟩))
        go_ret2
        exact ⟨0, false, rfl, .not hb3 Hno.out⟩
    · have Hno : Hid (∀ r, ¬ Ty false (sfx s k) r) := Lib.hid (fun r' ht => by
        rw [HK.out] at ht
        obtain ⟨_, x, e, hx⟩ := arr_inv ht
        rw [← Hm.out, sfx_nil s m (by omega)] at e
        cases e)
      clear hc hr hP hj hm hdl hw
      unfold maxLen at hs
      go_enter Tryd.func87, Tryd.ntmps87
      go_wp2_with (first
        | (go_at_call 94; refine HD.out.mono ?_; rintro e w2 ⟨rfl, rfl⟩)
        | (go_at_call 95; refine HW.out.mono ?_; rintro e w3 ⟨⟨v, rfl⟩, hb3⟩))
      go_ret2
      exact ⟨0, false, rfl, .not hb3 Hno.out⟩
  · have hw' : whole (nums (s.extract j m)) = false := by simpa using hw
    rw [hw'] at HW
    have Hno : Hid (∀ r, ¬ Ty false (sfx s k) r) := Lib.hid (fun r' ht => by
      rw [HK.out] at ht
      have := (arr_inv ht).1
      rw [← Hd.out, hw'] at this
      cases this)
    clear hc hr hP hj hm hdl hw hw'
    unfold maxLen at hs
    go_enter Tryd.func87, Tryd.ntmps87
    go_wp2_with (first
      | (go_at_call 94; refine HD.out.mono ?_; rintro e w2 ⟨rfl, rfl⟩)
      | (go_at_call 95; refine HW.out.mono ?_; rintro e w3 ⟨⟨v, rfl⟩, hb3⟩))
    go_ret2
    exact ⟨0, false, rfl, .not hb3 Hno.out⟩
set_option maxHeartbeats 1600000 in
theorem next_struct (hs : s.size ≤ maxLen) (k : Nat) (w : World) (hk : k ≤ s.size) (r : List Int) (hc : sfx s k = 83 :: r) : Calls Tryd.prog 87 #[.string s, .int .i64 k] w (NxS s k w) := by
  obtain ⟨hlt, hcv, hr⟩ := sfx_head hc
  obtain ⟨j, hj⟩ : ∃ j, j = k + 1 := ⟨_, rfl⟩
  have hjI : (k : Int) + 1 = (j : Int) := by omega
  rw [← hj] at hr
  have hjs : j ≤ s.size := by omega
  have HK : Hid (sfx s k = 83 :: sfx s j) := Lib.hid (by rw [hc, hr])
  have HM := Lib.hid hs
  clear hc hr hj
  unfold maxLen at hs
  go_enter Tryd.func87, Tryd.ntmps87
  go_wp2_with fail
  go_loop [9] (fun i => ∃ (q : Nat) (x : List Int), i = .int .i64 q ∧ j ≤ q ∧ q ≤ s.size ∧ sfx s j = x ++ sfx s q ∧ (∀ z ∈ x, z ≠ 59) ∧ x.length = q - j) (fun i => s.size - (intOf i).toNat)
  case atStart => exact ⟨j, [], rfl, Nat.le_refl _, hjs, rfl, by simp, by simp⟩
  case round =>
    obtain ⟨q, x, rfl, i1, i2, i3, i4, i5⟩ := hrel
    have I3 := Lib.hid i3
    have I4 := Lib.hid i4
    have I5 := Lib.hid i5
    clear i3 i4 i5
    by_cases hql : q < s.size
    · by_cases h59 : (s[q].toNat : Int) = 59
      · have e59 : ((s[q].toNat : Int) != 59) = false := by simp; omega
        have z1 : (j : Int) ≤ (q : Int) := by omega
        have z2 : (q : Int) ≤ (s.size : Int) := by omega
        have Hx : Hid (sfx s q = 59 :: sfx s (q + 1)) := Lib.hid (by rw [sfx_cons s q hql, h59])
        have HW := Lib.hid (fun W => Name_any (s.extract j q) W (by have := extract_size s j q i2; have := HM.out; unfold maxLen at this ⊢; omega))
        have Hnx : Hid (nums (s.extract j q) = x) := Lib.hid (by
          rw [nums_extract s j q i2, I3.out, ← I5.out, List.take_left])
        have Hyes : Hid (nameB (nums (s.extract j q)) = true → Ty false (sfx s k) (sfx s (q + 1))) := Lib.hid (fun h => by
          rw [HK.out, I3.out, Hx.out]
          rw [Hnx.out] at h
          exact .struct h)
        have Hno : Hid (nameB (nums (s.extract j q)) = false → ∀ r, ¬ Ty false (sfx s k) r) := Lib.hid (fun h r' ht => by
          rw [HK.out, I3.out, Hx.out] at ht
          obtain ⟨y, e, hy⟩ := ty_struct ht
          have := (split_unique I4.out (name_semi hy) e).1
          rw [Hnx.out, this, hy] at h
          cases h)
        have hsz : (s.extract j q).size ≤ s.size := by rw [extract_size s j q i2]; omega
        clear h59
        generalize nameB (nums (s.extract j q)) = nb at *
        go_wp2_with (go_at_call 96; refine (HW.out _).mono ?_; rintro e w3 ⟨rfl, hb3⟩)
        go_ret2
        exact ⟨_, nb, rfl, fun h => ⟨q + 1, by omega, by omega, Hyes.out h⟩, Hno.out, hb3⟩
      · have e59 : ((s[q].toNat : Int) != 59) = true := by simp; omega
        have Hx : Hid (sfx s j = (x ++ [(s[q].toNat : Int)]) ++ sfx s (q + 1)) := Lib.hid (by rw [I3.out, sfx_cons s q hql]; simp)
        have Hy : Hid (∀ z ∈ x ++ [(s[q].toNat : Int)], z ≠ 59) := Lib.hid (fun z hz => by
          rcases List.mem_append.1 hz with h | h
          · exact I4.out z h
          · have : z = (s[q].toNat : Int) := by simpa using h
            rw [this]; exact h59)
        have Hz : Hid ((x ++ [(s[q].toNat : Int)]).length = q + 1 - j) := Lib.hid (by rw [List.length_append, I5.out, List.length_singleton]; omega)
        clear h59
        go_wp2_with fail
        go_round
        case rel => exact ⟨q + 1, _, by go_num, by omega, by omega, Hx.out, Hy.out, Hz.out⟩
        case measure => simp [intOf]; omega
    · obtain rfl : q = s.size := by omega
      have Hno : Hid (∀ r, ¬ Ty false (sfx s k) r) := Lib.hid (fun r' ht => by
        rw [HK.out, I3.out, sfx_nil s s.size (Nat.le_refl _), List.append_nil] at ht
        obtain ⟨y, e, hy⟩ := ty_struct ht
        exact I4.out 59 (by rw [e]; simp) rfl)
      go_wp2_with fail
      go_ret2
      exact ⟨_, false, rfl, .not (Below.refl _ _) Hno.out⟩
theorem next_all (hs : s.size ≤ maxLen) : ∀ n, PNx 87 s n
  | 0 => fun k w hk hn => next_end hs k w hk (by omega)
  | n + 1 => fun k w hk hn => by
    have hP := next_all hs n
    rcases Nat.lt_or_ge k s.size with hlt | hge
    · have hc := sfx_cons s k hlt
      generalize (s[k].toNat : Int) = c at hc
      by_cases hb : baseC c = true
      · exact next_base hs k w hk c _ hc hb
      · have hb' : baseC c = false := by simpa using hb
        by_cases n1 : c = 112
        · subst n1; exact next_ptr hs hP k w hk hn _ hc
        · by_cases n2 : c = 97
          · subst n2; exact next_arr hs hP k w hk hn _ hc
          · by_cases n3 : c = 83
            · subst n3; exact next_struct hs k w hk _ hc
            · by_cases n4 : c = 102
              · subst n4; exact next_fn hs hP k w hk hn _ hc
              · exact next_other hs k w hk c _ hc hb' n1 n2 n3 n4
    · exact next_end hs k w hk hge
end
end Go.Proofs.YtejhphnlickjlaaDoor.ty
