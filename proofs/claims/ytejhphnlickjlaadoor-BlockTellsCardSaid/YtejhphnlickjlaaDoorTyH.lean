/-
  The contract of the reader of types' codes: functions and parameters; and all of them together. Conditions: the reader and the table of keywords stand in memory.
-/
import Derived.Test.YtejhphnlickjlaaDoorTyF
set_option linter.unusedVariables false
set_option linter.unusedSimpArgs false
namespace Go.Proofs.YtejhphnlickjlaaDoor.ty
open Go.ChangeShapes Go.WideShapes Go.RowKit
open M T
set_option linter.unusedVariables false
section
variable {g : Nat} {s : ByteArray} {n : Nat} {k d dp : Nat} {w W : World}
theorem Now.rd {m' : Bool} {k2 d2 dp2 : Nat} {b : Bool} {w' : World} {m : Bool} (h : Now w W g s k2 dp2) (h4 : RdB m W g s k2 d2 dp2 b w') (hd : d ≤ dp2) (hdp : dp ≤ dp2)
    (hyes : ∀ k', Ty m (sfx s k2) (sfx s k') ∨ (m = true ∧ sfx s k2 = 41 :: sfx s k') → Ty m' (sfx s k) (sfx s k') ∨ (m' = true ∧ sfx s k = 41 :: sfx s k'))
    (hno : (∀ r, ¬ Ty m (sfx s k2) r ∧ ¬ (m = true ∧ sfx s k2 = 41 :: r)) → ∀ r, ¬ Ty m' (sfx s k) r ∧ ¬ (m' = true ∧ sfx s k = 41 :: r)) : RdB m' w g s k d dp b w' :=
  h4.back h.2 hd hdp hyes hno
set_option maxHeartbeats 1600000 in
theorem read_arr (hs : s.size ≤ maxLen) (hP : PRead 109 false 0 g s n) (hg0 : 0 < g) (h : Rdr w g s k dp) (hK : KeysIn w) (hk : k ≤ s.size) (hn : s.size - k ≤ n + 1) (hd : d + (s.size - k) ≤ 140000) (hdp : dp ≤ 140000) (r : List Int) (hc : sfx s k = 97 :: r) :
    Calls Tryd.prog 109 #[.pointer (some ⟨g, 0, none⟩), .int .i64 d] w (RdS false w g s k d dp) := by
  obtain ⟨hlt, hcv, hr⟩ := sfx_head hc
  have HN := Lib.hid (next_c g s k (max dp d) 97 r (w.setCell ⟨g, 2, none⟩ (.int .i64 (max (dp : Int) (d : Int)))) (h.setMax d) hc hs)
  have HI := Lib.hid (fun W => base_no 97 W (by omega) (by omega) (by decide))
  have HT := Lib.hid (fun c' W (h0 : c' ≠ 0) (hR : Now w W g s k (max dp d)) => take_now hs 97 r hc c' W h0 hR)
  have HS := Lib.hid (Now.start (d := d) h)
  obtain ⟨e0, e1, e2, -, f1, f2⟩ := h.cells
  have HTill := Lib.hid (fun W (hR : Now w W g s (k + 1) (max dp d)) => till_any hs (by omega) 58 58 rfl W hR)
  rcases till_cases (s := s) (k := k + 1) (by omega) 58 with ⟨hi, hno⟩ | ⟨o, hi, ho, hsp, hne⟩
  · have HTl := Lib.hid (fun W hR => (HTill.out W hR).1 hi)
    have HNu : Hid (∀ W, Now w W g s (k + 1) (max dp d) → Calls Tryd.prog 122 #[.string ⟨#[]⟩] W fun e w' => (∃ i : Int, e = .returned (.tuple #[.int .i64 i, .bool false])) ∧ Now w w' g s (k + 1) (max dp d)) := Lib.hid (fun W hR => (number_any ⟨#[]⟩ W (Nat.zero_le _)).mono fun e w' ⟨h1, h2⟩ => ⟨h1, hR.below h2⟩)
    have Hno : Hid (∀ r, ¬ Ty false (sfx s k) r) := Lib.hid (fun r' ht => by
      rw [hc, ← hr] at ht
      obtain ⟨d, m, e, hw, _⟩ := ty_arr ht
      exact hno 58 (by rw [e]; simp) rfl)
    clear h hc hcv hr hK hi hno HTill hP
    unfold maxLen at hs
    go_enter Tryd.func109, Tryd.ntmps109
    go_wp2_with (first
      | (go_at_call 118; refine HN.out.mono ?_; rintro e w1 ⟨rfl, q, rfl⟩; have h1 := HS.out.drewN q)
      | (go_at_call 119; refine (HI.out _).mono ?_; rintro e w2 ⟨rfl, rfl⟩)
      | (go_at_call 120; refine (HT.out _ _ (by decide) (by assumption)).mono ?_; rintro e w3 ⟨rfl, h3⟩; simp at h3)
      | (go_at_call 121; refine (HTl.out _ (by assumption)).mono ?_; rintro e w4 ⟨rfl, h4⟩)
      | (go_at_call 122; refine (HNu.out _ (by assumption)).mono ?_; rintro e w5 ⟨⟨i, rfl⟩, h5⟩))
    go_ret
    exact ⟨false, rfl, h5.done (by omega) (by omega) (by omega) (by omega) (fun h => by cases h) (fun _ => Hno.out)⟩
  · have HTl := Lib.hid (fun W hR => (HTill.out W hR).2 o hi ho)
    have HNu : Hid (∀ W, Now w W g s (k + 1 + o + 1) (max dp d) → Calls Tryd.prog 122 #[.string (s.extract (k + 1) (k + 1 + o))] W fun e w' => (∃ i : Int, e = .returned (.tuple #[.int .i64 i, .bool (whole (nums (s.extract (k + 1) (k + 1 + o))))])) ∧ Now w w' g s (k + 1 + o + 1) (max dp d)) := Lib.hid (fun W hR => by
      refine (number_any _ W ?_).mono fun e w' ⟨h1, h2⟩ => ⟨h1, hR.below h2⟩
      have := nums_length (s.extract (k + 1) (k + 1 + o))
      rw [nums_extract s _ _ (by omega), List.length_take] at this
      unfold maxLen at hs ⊢
      omega)
    by_cases hw : whole (nums (s.extract (k + 1) (k + 1 + o))) = true
    · have HRec : Hid (∀ W, Now w W g s (k + 1 + o + 1) (max dp d) → Calls Tryd.prog 109 #[.pointer (some ⟨g, 0, none⟩), .int .i64 ((d : Int) + 1)] W (RdS false W g s (k + 1 + o + 1) (d + 1) (max dp d))) := Lib.hid (fun W hR => by
        have := hP (k + 1 + o + 1) (d + 1) (max dp d) W hR.1 (hK.grown hR.2 hg0) (by omega) (by omega) (by omega) (by omega)
        rwa [show ((d + 1 : Nat) : Int) = (d : Int) + 1 from by omega] at this)
      have Hyes : Hid (∀ k', Ty false (sfx s (k + 1 + o + 1)) (sfx s k') ∨ (false = true ∧ sfx s (k + 1 + o + 1) = 41 :: sfx s k') → Ty false (sfx s k) (sfx s k') ∨ (false = true ∧ sfx s k = 41 :: sfx s k')) := Lib.hid (fun k' hx => by
        rcases hx with hx | hx
        · left; rw [hc, ← hr, hsp]; exact .arr hw hx
        · cases hx.1)
      have Hno : Hid ((∀ r, ¬ Ty false (sfx s (k + 1 + o + 1)) r ∧ ¬ (false = true ∧ sfx s (k + 1 + o + 1) = 41 :: r)) → ∀ r, ¬ Ty false (sfx s k) r ∧ ¬ (false = true ∧ sfx s k = 41 :: r)) := Lib.hid (fun hx r' => ⟨fun ht => by
        rw [hc, ← hr, hsp] at ht
        obtain ⟨d', m, e, hw', ht'⟩ := ty_arr ht
        obtain ⟨_, e2⟩ := split_unique (c := 58) hne (whole_digit hw') e
        subst e2
        exact (hx r').1 ht', fun x => by cases x.1⟩)
      rw [hw] at HNu
      clear h hc hcv hr hK hi hsp hne HTill hP hw
      unfold maxLen at hs
      go_enter Tryd.func109, Tryd.ntmps109
      go_wp2_with (first
        | (go_at_call 118; refine HN.out.mono ?_; rintro e w1 ⟨rfl, q, rfl⟩; have h1 := HS.out.drewN q)
        | (go_at_call 119; refine (HI.out _).mono ?_; rintro e w2 ⟨rfl, rfl⟩)
        | (go_at_call 120; refine (HT.out _ _ (by decide) (by assumption)).mono ?_; rintro e w3 ⟨rfl, h3⟩; simp at h3)
        | (go_at_call 121; refine (HTl.out _ (by assumption)).mono ?_; rintro e w4 ⟨rfl, h4⟩)
        | (go_at_call 122; refine (HNu.out _ (by assumption)).mono ?_; rintro e w5 ⟨⟨i, rfl⟩, h5⟩)
        | (go_at_call 109; refine (HRec.out _ (by assumption)).mono ?_; rintro e w6 ⟨b, rfl, h6⟩; have H6 := Lib.hid (h5.rd (k := k) (d := d) (dp := dp) (m' := false) h6 (by omega) (by omega) Hyes.out Hno.out); clear h6))
      go_ret
      exact ⟨b, rfl, H6.out⟩
    · have hw' : whole (nums (s.extract (k + 1) (k + 1 + o))) = false := by simpa using hw
      have Hno : Hid (∀ r, ¬ Ty false (sfx s k) r) := Lib.hid (fun r' ht => by
        rw [hc, ← hr, hsp] at ht
        obtain ⟨d', m, e, hw2, ht'⟩ := ty_arr ht
        obtain ⟨e1, _⟩ := split_unique (c := 58) hne (whole_digit hw2) e
        rw [e1] at hw
        exact hw hw2)
      rw [hw'] at HNu
      clear h hc hcv hr hK hi hsp hne HTill hP hw hw'
      unfold maxLen at hs
      go_enter Tryd.func109, Tryd.ntmps109
      go_wp2_with (first
        | (go_at_call 118; refine HN.out.mono ?_; rintro e w1 ⟨rfl, q, rfl⟩; have h1 := HS.out.drewN q)
        | (go_at_call 119; refine (HI.out _).mono ?_; rintro e w2 ⟨rfl, rfl⟩)
        | (go_at_call 120; refine (HT.out _ _ (by decide) (by assumption)).mono ?_; rintro e w3 ⟨rfl, h3⟩; simp at h3)
        | (go_at_call 121; refine (HTl.out _ (by assumption)).mono ?_; rintro e w4 ⟨rfl, h4⟩)
        | (go_at_call 122; refine (HNu.out _ (by assumption)).mono ?_; rintro e w5 ⟨⟨i, rfl⟩, h5⟩))
      go_ret
      exact ⟨false, rfl, h5.done (by omega) (by omega) (by omega) (by omega) (fun h => by cases h) (fun _ => Hno.out)⟩
/-- what is no code, or nothing at all -/
theorem read_other (hs : s.size ≤ maxLen) (h : Rdr w g s k dp) (hk : k ≤ s.size) (hd : d + (s.size - k) ≤ 140000) (hdp : dp ≤ 140000) (c : Int) (r : List Int) (hc : sfx s k = c :: r) (hb : baseC c = false) (n1 : c ≠ 112) (n2 : c ≠ 97) (n3 : c ≠ 83) (n4 : c ≠ 102) :
    Calls Tryd.prog 109 #[.pointer (some ⟨g, 0, none⟩), .int .i64 d] w (RdS false w g s k d dp) := by
  have hbd := nums_byte s c (by have : c ∈ sfx s k := by rw [hc]; simp
                                exact List.mem_of_mem_drop this)
  have HN := Lib.hid (next_c g s k (max dp d) c r (w.setCell ⟨g, 2, none⟩ (.int .i64 (max (dp : Int) (d : Int)))) (h.setMax d) hc hs)
  have HI := Lib.hid (fun W => base_no c W hbd.1 hbd.2 hb)
  have HT : Hid (∀ c' W, (c' = 112 ∨ c' = 97 ∨ c' = 83 ∨ c' = 102) → Now w W g s k (max dp d) → Calls Tryd.prog 120 #[.pointer (some ⟨g, 0, none⟩), .int .u8 c'] W fun e w' => e = .returned (.bool false) ∧ Now w w' g s k (max dp d)) := Lib.hid (fun c' W hc' hR => by
    have hne : c ≠ c' := by rcases hc' with e | e | e | e <;> (rw [e]; assumption)
    have := take_now hs c r hc c' W (by rcases hc' with e | e | e | e <;> (rw [e]; decide)) hR
    rwa [if_neg hne, show decide (c = c') = false from by simp [hne]] at this)
  have HS := Lib.hid (Now.start (d := d) h)
  have Hno : Hid (∀ r, ¬ Ty false (sfx s k) r) := Lib.hid (fun r' => by rw [hc]; exact ty_other hb n1 n2 n3 n4)
  obtain ⟨e0, e1, e2, -, f1, f2⟩ := h.cells
  clear h hc hb n1 n2 n3 n4 hbd
  unfold maxLen at hs
  by_cases hc0 : (c != 0) = true
  · go_enter Tryd.func109, Tryd.ntmps109
    go_wp2_with (first
      | (go_at_call 118; refine HN.out.mono ?_; rintro e w1 ⟨rfl, q, rfl⟩; have h1 := HS.out.drewN q)
      | (go_at_call 119; refine (HI.out _).mono ?_; rintro e w2 ⟨rfl, rfl⟩)
      | (go_at_call 120; refine (HT.out _ _ (by decide) (by assumption)).mono ?_; rintro e w3 ⟨rfl, h3⟩))
    go_ret
    exact ⟨false, rfl, (by assumption : Now w _ g s k (max dp d)).done (by omega) (by omega) (by omega) (by omega) (fun h => by cases h) (fun _ => Hno.out)⟩
  · have hc1 : (c != 0) = false := by simpa using hc0
    clear hc0
    go_enter Tryd.func109, Tryd.ntmps109
    go_wp2_with (first
      | (go_at_call 118; refine HN.out.mono ?_; rintro e w1 ⟨rfl, q, rfl⟩; have h1 := HS.out.drewN q)
      | (go_at_call 120; refine (HT.out _ _ (by decide) (by assumption)).mono ?_; rintro e w3 ⟨rfl, h3⟩))
    go_ret
    exact ⟨false, rfl, (by assumption : Now w _ g s k (max dp d)).done (by omega) (by omega) (by omega) (by omega) (fun h => by cases h) (fun _ => Hno.out)⟩
theorem read_end (hs : s.size ≤ maxLen) (h : Rdr w g s k dp) (hk : k ≤ s.size) (hd : d + (s.size - k) ≤ 140000) (hdp : dp ≤ 140000) (hc : sfx s k = []) :
    Calls Tryd.prog 109 #[.pointer (some ⟨g, 0, none⟩), .int .i64 d] w (RdS false w g s k d dp) := by
  have hke := sfx_end hc hk
  have HN := Lib.hid (next_no g s k (max dp d) (w.setCell ⟨g, 2, none⟩ (.int .i64 (max (dp : Int) (d : Int)))) (h.setMax d) (by omega) hs)
  have HT := Lib.hid (fun c' W (h0 : c' ≠ 0) (hR : Now w W g s k (max dp d)) => take_end hs hc c' W h0 hR)
  have HS := Lib.hid (Now.start (d := d) h)
  have Hno : Hid (∀ r, ¬ Ty false (sfx s k) r) := Lib.hid (fun r' ht => ht.ne hc)
  obtain ⟨e0, e1, e2, -, f1, f2⟩ := h.cells
  clear h hc hke
  unfold maxLen at hs
  go_enter Tryd.func109, Tryd.ntmps109
  go_wp2_with (first
    | (go_at_call 118; refine HN.out.mono ?_; rintro e w1 ⟨rfl, q, rfl⟩; have h1 := HS.out.drewN q)
    | (go_at_call 120; refine (HT.out _ _ (by decide) (by assumption)).mono ?_; rintro e w3 ⟨rfl, h3⟩))
  go_ret
  exact ⟨false, rfl, (by assumption : Now w _ g s k (max dp d)).done (by omega) (by omega) (by omega) (by omega) (fun h => by cases h) (fun _ => Hno.out)⟩
end
end Go.Proofs.YtejhphnlickjlaaDoor.ty
namespace Go.Proofs.YtejhphnlickjlaaDoor.ty
open Go.ChangeShapes Go.WideShapes Go.RowKit
open M T
set_option linter.unusedVariables false
section
variable {g : Nat} {s : ByteArray} {n : Nat} {k d dp : Nat} {w W : World}
/-- taking a byte, whatever comes -/
theorem take_all (hs : s.size ≤ maxLen) (c' : Int) (W : World) (h0 : c' ≠ 0) (h : Now w W g s k dp) :
    (∀ r, sfx s k = c' :: r → Calls Tryd.prog 120 #[.pointer (some ⟨g, 0, none⟩), .int .u8 c'] W fun e w' => e = .returned (.bool true) ∧ Now w w' g s (k + 1) dp) ∧
    ((∀ r, sfx s k ≠ c' :: r) → Calls Tryd.prog 120 #[.pointer (some ⟨g, 0, none⟩), .int .u8 c'] W fun e w' => e = .returned (.bool false) ∧ Now w w' g s k dp) :=
  ⟨fun r hc => (take_c g s k dp c' r W h.1 hc hs).mono fun e w' ⟨h1, h2⟩ => ⟨h1, h.step h2⟩, fun hc => (take_no g s k dp c' W h.1 hc h0 hs).mono fun e w' ⟨h1, h2⟩ => ⟨h1, h.step h2⟩⟩
def PrT (l r : List Int) : Prop := Ty true l r ∨ l = 41 :: r
theorem RdB.params {k2 d2 dp2 : Nat} {b : Bool} {w' : World} (h : RdB true W g s k2 d2 dp2 b w') (hN : Now w W g s k2 dp2) :
    (b = true → ∃ k' dp', Now w w' g s k' dp' ∧ k' ≤ s.size ∧ dp2 ≤ dp' ∧ dp' ≤ 140000 ∧ PrT (sfx s k2) (sfx s k')) ∧ (b = false → ∃ k' dp', Now w w' g s k' dp' ∧ k' ≤ s.size ∧ dp2 ≤ dp' ∧ dp' ≤ 140000 ∧ ∀ r, ¬ PrT (sfx s k2) r) := by
  obtain ⟨k', dp', h1, h2, h3, h4, h5, h6, h7, h8⟩ := h
  refine ⟨fun hb => ⟨k', dp', ⟨h1, hN.2.trans h2⟩, h3, h4, h6, ?_⟩, fun hb => ⟨k', dp', ⟨h1, hN.2.trans h2⟩, h3, h4, h6, fun r hr => ?_⟩⟩
  · rcases h7 hb with h | h
    · exact .inl h
    · exact .inr h.2
  · rcases hr with hr | hr
    · exact (h8 hb r).1 hr
    · exact (h8 hb r).2 ⟨rfl, hr⟩
set_option maxHeartbeats 1600000 in
theorem read_fn (hs : s.size ≤ maxLen) (hP : PRead 109 false 0 g s n) (hQ : PRead 124 true 1 g s n) (hg0 : 0 < g) (h : Rdr w g s k dp) (hK : KeysIn w) (hk : k ≤ s.size) (hn : s.size - k ≤ n + 1) (hd : d + (s.size - k) ≤ 140000) (hdp : dp ≤ 140000) (r : List Int) (hc : sfx s k = 102 :: r) :
    Calls Tryd.prog 109 #[.pointer (some ⟨g, 0, none⟩), .int .i64 d] w (RdS false w g s k d dp) := by
  obtain ⟨hlt, hcv, hr⟩ := sfx_head hc
  have HN := Lib.hid (next_c g s k (max dp d) 102 r (w.setCell ⟨g, 2, none⟩ (.int .i64 (max (dp : Int) (d : Int)))) (h.setMax d) hc hs)
  have HI := Lib.hid (fun W => base_no 102 W (by omega) (by omega) (by decide))
  have HT : Hid (∀ c' W, (c' = 112 ∨ c' = 97 ∨ c' = 83 ∨ c' = 102) → Now w W g s k (max dp d) → Calls Tryd.prog 120 #[.pointer (some ⟨g, 0, none⟩), .int .u8 c'] W fun e w' => e = .returned (.bool (decide ((102 : Int) = c'))) ∧ Now w w' g s (if (102 : Int) = c' then k + 1 else k) (max dp d)) := Lib.hid (fun c' W h0 hR => take_now hs 102 r hc c' W (by rcases h0 with e | e | e | e <;> (rw [e]; decide)) hR)
  have HS := Lib.hid (Now.start (d := d) h)
  obtain ⟨e0, e1, e2, -, f1, f2⟩ := h.cells
  by_cases hp : ∃ r2, r = 40 :: r2
  · obtain ⟨r2, rfl⟩ := hp
    obtain ⟨hlt2, _, hr2⟩ := sfx_head hr
    have HT2 : Hid (∀ W, Now w W g s (k + 1) (max dp d) → Calls Tryd.prog 120 #[.pointer (some ⟨g, 0, none⟩), .int .u8 40] W fun e w' => e = .returned (.bool true) ∧ Now w w' g s (k + 1 + 1) (max dp d)) := Lib.hid (fun W hR => (take_all hs 40 W (by decide) hR).1 r2 hr)
    have HQ : Hid (∀ W, Now w W g s (k + 1 + 1) (max dp d) → Calls Tryd.prog 124 #[.pointer (some ⟨g, 0, none⟩), .int .i64 (d : Int)] W (RdS true W g s (k + 1 + 1) d (max dp d))) := Lib.hid (fun W hR => hQ (k + 1 + 1) d (max dp d) W hR.1 (hK.grown hR.2 hg0) (by omega) (by omega) (by omega) (by omega))
    have HRec : Hid (∀ (W : World) (k2 dp2 : Nat), Now w W g s k2 dp2 → k2 ≤ s.size → s.size - k2 ≤ n → dp2 ≤ 140000 → k < k2 → Calls Tryd.prog 109 #[.pointer (some ⟨g, 0, none⟩), .int .i64 ((d : Int) + 1)] W (RdS false W g s k2 (d + 1) dp2)) := Lib.hid (fun W k2 dp2 hR h1 h2 h3 h4 => by
      have := hP k2 (d + 1) dp2 W hR.1 (hK.grown hR.2 hg0) h1 h2 (by omega) h3
      rwa [show ((d + 1 : Nat) : Int) = (d : Int) + 1 from by omega] at this)
    have Hsh : Hid (∀ k2, k2 ≤ s.size → PrT (sfx s (k + 1 + 1)) (sfx s k2) → k + 2 ≤ k2 ∧ s.size - k2 ≤ n) := Lib.hid (fun k2 hk2 hx => by
      have : (sfx s k2).length < (sfx s (k + 1 + 1)).length := by
        rcases hx with hx | hx
        · exact hx.shorter
        · rw [hx]; simp
      rw [sfx_length, sfx_length] at this
      omega)
    have Hyes : Hid (∀ k2 k', PrT (sfx s (k + 1 + 1)) (sfx s k2) → Ty false (sfx s k2) (sfx s k') ∨ (false = true ∧ sfx s k2 = 41 :: sfx s k') → Ty false (sfx s k) (sfx s k') ∨ (false = true ∧ sfx s k = 41 :: sfx s k')) := Lib.hid (fun k2 k' hx hy => by
      rcases hy with hy | hy
      · left
        rw [hc, ← hr2]
        rcases hx with hx | hx
        · exact .fn hx hy
        · rw [hx]; exact .fn0 hy
      · cases hy.1)
    have Hno : Hid (∀ k2, PrT (sfx s (k + 1 + 1)) (sfx s k2) → (∀ r, ¬ Ty false (sfx s k2) r ∧ ¬ (false = true ∧ sfx s k2 = 41 :: r)) → ∀ r, ¬ Ty false (sfx s k) r ∧ ¬ (false = true ∧ sfx s k = 41 :: r)) := Lib.hid (fun k2 hx hy r' => ⟨fun ht => by
      rw [hc, ← hr2] at ht
      obtain ⟨x, e, hz⟩ := ty_fn ht
      injection e with _ e
      subst e
      rcases hx with hx | hx
      · rcases hz with ⟨m, e, hm⟩ | ⟨m, hm, hm2⟩
        · exact hx.head _ e
        · have := hx.unique _ hm
          rw [this] at hy
          exact (hy r').1 hm2
      · rcases hz with ⟨m, e, hm⟩ | ⟨m, hm, hm2⟩
        · rw [hx] at e
          injection e with _ e
          rw [e] at hy
          exact (hy r').1 hm
        · rw [hx] at hm
          exact hm.head _ rfl, fun x => by cases x.1⟩)
    have Hno2 : Hid ((∀ r, ¬ PrT (sfx s (k + 1 + 1)) r) → ∀ r, ¬ Ty false (sfx s k) r) := Lib.hid (fun hx r' ht => by
      rw [hc, ← hr2] at ht
      obtain ⟨x, e, hz⟩ := ty_fn ht
      injection e with _ e
      subst e
      rcases hz with ⟨m, e, hm⟩ | ⟨m, hm, hm2⟩
      · exact hx m (.inr e)
      · exact hx m (.inl hm))
    clear h hc hcv hr hr2 hK hP hQ
    unfold maxLen at hs
    go_enter Tryd.func109, Tryd.ntmps109
    go_wp2_with (first
      | (go_at_call 118; refine HN.out.mono ?_; rintro e w1 ⟨rfl, q, rfl⟩; have h1 := HS.out.drewN q)
      | (go_at_call 119; refine (HI.out _).mono ?_; rintro e w2 ⟨rfl, rfl⟩)
      | (go_at_call 120; refine (HT.out _ _ (by decide) (by assumption)).mono ?_; rintro e w3 ⟨rfl, h3⟩; simp at h3)
      | (go_at_call 120; refine (HT2.out _ (by assumption)).mono ?_; rintro e w4 ⟨rfl, h4⟩)
      | (go_at_call 124; refine (HQ.out _ (by assumption)).mono ?_; rintro e w5 ⟨b, rfl, h5⟩; have H5 := Lib.hid (h5.params (w := w) (by assumption)); clear h5))
    · obtain rfl : b = true := by assumption
      obtain ⟨k2, dp2, i1, i2, i3, i4, i5⟩ := H5.out.1 rfl
      obtain ⟨j1, j2⟩ := Hsh.out k2 i2 i5
      refine (HRec.out _ k2 dp2 i1 i2 j2 i4 (by omega)).mono ?_
      rintro e w6 ⟨b, rfl, h6⟩
      have H6 := Lib.hid (i1.rd (k := k) (d := d) (dp := dp) (m' := false) h6 (by omega) (by omega) (fun k' => Hyes.out k2 k' i5) (Hno.out k2 i5))
      clear h6 i5
      go_wp2_with fail
      go_ret
      exact ⟨b, rfl, H6.out⟩
    · obtain rfl : b = false := by simpa using (by assumption : ¬ b = true)
      go_ret
      obtain ⟨k', dp', i1, i2, i3, i4, i5⟩ := H5.out.2 rfl
      exact ⟨false, rfl, i1.done i2 (by omega) (by omega) i4 (fun h => by cases h) (fun _ => Hno2.out i5)⟩
  · have HT2 : Hid (∀ W, Now w W g s (k + 1) (max dp d) → Calls Tryd.prog 120 #[.pointer (some ⟨g, 0, none⟩), .int .u8 40] W fun e w' => e = .returned (.bool false) ∧ Now w w' g s (k + 1) (max dp d)) := Lib.hid (fun W hR => (take_all hs 40 W (by decide) hR).2 (fun r2 e => hp ⟨r2, by rw [← hr]; exact e⟩))
    have Hno : Hid (∀ r, ¬ Ty false (sfx s k) r) := Lib.hid (fun r' ht => by
      rw [hc] at ht
      obtain ⟨x, e, _⟩ := ty_fn ht
      exact hp ⟨x, e⟩)
    clear h hc hcv hr hK hP hQ hp
    unfold maxLen at hs
    go_enter Tryd.func109, Tryd.ntmps109
    go_wp2_with (first
      | (go_at_call 118; refine HN.out.mono ?_; rintro e w1 ⟨rfl, q, rfl⟩; have h1 := HS.out.drewN q)
      | (go_at_call 119; refine (HI.out _).mono ?_; rintro e w2 ⟨rfl, rfl⟩)
      | (go_at_call 120; refine (HT.out _ _ (by decide) (by assumption)).mono ?_; rintro e w3 ⟨rfl, h3⟩; simp at h3)
      | (go_at_call 120; refine (HT2.out _ (by assumption)).mono ?_; rintro e w4 ⟨rfl, h4⟩))
    go_ret
    exact ⟨false, rfl, h4.done (by omega) (by omega) (by omega) (by omega) (fun h => by cases h) (fun _ => Hno.out)⟩
end
end Go.Proofs.YtejhphnlickjlaaDoor.ty
