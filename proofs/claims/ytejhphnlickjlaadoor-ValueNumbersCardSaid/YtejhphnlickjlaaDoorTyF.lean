/-
  The contract of the reader of types' codes: structs, arrays, functions, what is no code. Conditions: the reader and the table of keywords stand in memory; what is read further is read as the contract says.
-/
import Derived.Test.YtejhphnlickjlaaDoorTyE
namespace Go.Proofs.YtejhphnlickjlaaDoor.ty
open Go.ChangeShapes Go.WideShapes Go.RowKit
open M T
set_option linter.unusedVariables false
/-- where reading stands now -/
def Now (w W : World) (g : Nat) (s : ByteArray) (k dp : Nat) : Prop := Rdr W g s k dp ∧ w.grownBy W (some g)
section
variable {g : Nat} {s : ByteArray} {n : Nat} {k d dp : Nat} {w W : World}
theorem Now.drewN (h : Now w W g s k dp) (q : Nat) : Now w (W.drewN q) g s k dp := ⟨h.1.drewN q, gb_drewN h.2 q⟩
theorem Now.below {W' : World} (h : Now w W g s k dp) (hb : Below W.heap.size W W') : Now w W' g s k dp := ⟨h.1.below hb, gb_below h.2 hb⟩
theorem Now.step {W' : World} {k' dp' : Nat} (h : Now w W g s k dp) (h2 : Step W g s k' dp' W') : Now w W' g s k' dp' := ⟨h2.1, h.2.trans h2.2⟩
theorem Now.start (h : Rdr w g s k dp) : Now w (w.setCell ⟨g, 2, none⟩ (.int .i64 (max (dp : Int) (d : Int)))) g s k (max dp d) := ⟨h.setMax d, gb_set (World.grownBy.refl w (some g)) 2 _⟩
theorem take_now (hs : s.size ≤ maxLen) (c : Int) (r : List Int) (hc : sfx s k = c :: r) (c' : Int) (W : World) (h0 : c' ≠ 0) (h : Now w W g s k dp) :
    Calls Tryd.prog 120 #[.pointer (some ⟨g, 0, none⟩), .int .u8 c'] W fun e w' => e = .returned (.bool (decide (c = c'))) ∧ Now w w' g s (if c = c' then k + 1 else k) dp := by
  by_cases hcc : c = c'
  · subst hcc
    rw [if_pos rfl, show decide (c = c) = true from by simp]
    exact (take_c g s k dp c r W h.1 hc hs).mono fun e w' ⟨h1, h2⟩ => ⟨h1, h.step h2⟩
  · rw [if_neg hcc, show decide (c = c') = false from by simp [hcc]]
    exact (take_no g s k dp c' W h.1 (no_head hc hcc) h0 hs).mono fun e w' ⟨h1, h2⟩ => ⟨h1, h.step h2⟩
theorem take_end (hs : s.size ≤ maxLen) (hc : sfx s k = []) (c' : Int) (W : World) (h0 : c' ≠ 0) (h : Now w W g s k dp) :
    Calls Tryd.prog 120 #[.pointer (some ⟨g, 0, none⟩), .int .u8 c'] W fun e w' => e = .returned (.bool false) ∧ Now w w' g s k dp :=
  (take_no g s k dp c' W h.1 (by intro r; rw [hc]; simp) h0 hs).mono fun e w' ⟨h1, h2⟩ => ⟨h1, h.step h2⟩
theorem rest_nums (hk : k ≤ s.size) : nums (s.extract k s.size) = sfx s k := by
  rw [nums_extract s k s.size (Nat.le_refl _), List.take_of_length_le (by rw [sfx_length]; omega)]
/-- where a byte stands next -/
theorem till_cases (hk : k ≤ s.size) (c : UInt8) : (Lib.indexByte (s.extract k s.size).data.toList c = -1 ∧ ∀ x ∈ sfx s k, x ≠ (c.toNat : Int)) ∨
    ∃ o : Nat, Lib.indexByte (s.extract k s.size).data.toList c = (o : Int) ∧ k + o < s.size ∧ sfx s k = nums (s.extract k (k + o)) ++ (c.toNat : Int) :: sfx s (k + o + 1) ∧ (∀ x ∈ nums (s.extract k (k + o)), x ≠ (c.toNat : Int)) := by
  have hge := Lib.indexByte_ge (s.extract k s.size).data.toList c
  by_cases h : Lib.indexByte (s.extract k s.size).data.toList c = -1
  · left
    refine ⟨h, ?_⟩
    have := index_none h
    rwa [rest_nums hk] at this
  · right
    obtain ⟨o, ho⟩ : ∃ o : Nat, Lib.indexByte (s.extract k s.size).data.toList c = (o : Int) := ⟨(Lib.indexByte (s.extract k s.size).data.toList c).toNat, by omega⟩
    obtain ⟨r, h1, h2, h3⟩ := index_some ho
    rw [rest_nums hk] at h1 h3
    have hsz : (s.extract k s.size).size = s.size - k := by rw [← nums_length, rest_nums hk, sfx_length]
    rw [hsz] at h2
    have e1 : nums (s.extract k (k + o)) = (sfx s k).take o := by rw [nums_extract s k (k + o) (by omega), show k + o - k = o from by omega]
    have e2 : sfx s (k + o + 1) = r := by
      have e3 : (sfx s k).drop (o + 1) = r := by
        have hl : ((sfx s k).take o ++ [(c.toNat : Int)]).length = o + 1 := by
          rw [List.length_append, List.length_take, sfx_length]; simp; omega
        have e4 : sfx s k = ((sfx s k).take o ++ [(c.toNat : Int)]) ++ r := by rw [List.append_assoc]; exact h1
        generalize (sfx s k).take o ++ [(c.toNat : Int)] = a at *
        rw [e4, ← hl, List.drop_left]
      rw [show k + o + 1 = k + (o + 1) from by omega, sfx_add, e3]
    exact ⟨o, ho, by omega, by rw [e1, e2]; exact h1, by rw [e1]; exact h3⟩
theorem till_any (hs : s.size ≤ maxLen) (hk : k ≤ s.size) (c : UInt8) (c' : Int) (hcc : (c.toNat : Int) = c') (W : World) (h : Now w W g s k dp) :
    (Lib.indexByte (s.extract k s.size).data.toList c = -1 → Calls Tryd.prog 121 #[.pointer (some ⟨g, 0, none⟩), .int .u8 c'] W fun e w' => e = .returned (.tuple #[.string ⟨#[]⟩, .bool false]) ∧ Now w w' g s k dp) ∧
    (∀ o : Nat, Lib.indexByte (s.extract k s.size).data.toList c = (o : Int) → k + o < s.size → Calls Tryd.prog 121 #[.pointer (some ⟨g, 0, none⟩), .int .u8 c'] W fun e w' => e = .returned (.tuple #[.string (s.extract k (k + o)), .bool true]) ∧ Now w w' g s (k + o + 1) dp) := by
  subst hcc
  exact ⟨fun hi => (till_no g s k dp c W h.1 hk hs hi).mono fun e w' ⟨h1, h2⟩ => ⟨h1, h.step h2⟩,
    fun o hi ho => (till_yes g s k dp o c W h.1 hk hs hi ho).mono fun e w' ⟨h1, h2⟩ => ⟨h1, h.step h2⟩⟩
/-- the end of reading, where nothing further is read -/
theorem Now.done {k' dp' : Nat} {b : Bool} (h : Now w W g s k' dp') (hk' : k' ≤ s.size) (h1 : dp ≤ dp') (h2 : d ≤ dp') (h3 : dp' ≤ 140000) (hyes : b = true → Ty false (sfx s k) (sfx s k')) (hno : b = false → ∀ r, ¬ Ty false (sfx s k) r) : RdB false w g s k d dp b W :=
  ⟨k', dp', h.1, h.2, hk', h1, fun _ => h2, h3, fun hb => .inl (hyes hb), fun hb r => ⟨hno hb r, fun x => by cases x.1⟩⟩
set_option maxHeartbeats 1600000 in
theorem read_struct (hs : s.size ≤ maxLen) (hg0 : 0 < g) (h : Rdr w g s k dp) (hK : KeysIn w) (hk : k ≤ s.size) (hd : d + (s.size - k) ≤ 140000) (hdp : dp ≤ 140000) (r : List Int) (hc : sfx s k = 83 :: r) :
    Calls Tryd.prog 109 #[.pointer (some ⟨g, 0, none⟩), .int .i64 d] w (RdS false w g s k d dp) := by
  obtain ⟨hlt, hcv, hr⟩ := sfx_head hc
  have HN := Lib.hid (next_c g s k (max dp d) 83 r (w.setCell ⟨g, 2, none⟩ (.int .i64 (max (dp : Int) (d : Int)))) (h.setMax d) hc hs)
  have HI := Lib.hid (fun W => base_no 83 W (by omega) (by omega) (by decide))
  have HT := Lib.hid (fun c' W (h0 : c' ≠ 0) (hR : Now w W g s k (max dp d)) => take_now hs 83 r hc c' W h0 hR)
  have HS := Lib.hid (Now.start (d := d) h)
  obtain ⟨e0, e1, e2, -, f1, f2⟩ := h.cells
  have HTill := Lib.hid (fun W (hR : Now w W g s (k + 1) (max dp d)) => till_any hs (by omega) 59 59 rfl W hR)
  rcases till_cases (s := s) (k := k + 1) (by omega) 59 with ⟨hi, hno⟩ | ⟨o, hi, ho, hsp, hne⟩
  · have HTl := Lib.hid (fun W hR => (HTill.out W hR).1 hi)
    have Hno : Hid (∀ r, ¬ Ty false (sfx s k) r) := Lib.hid (fun r' ht => by
      rw [hc, ← hr] at ht
      obtain ⟨w, e, hw⟩ := ty_struct ht
      exact hno 59 (by rw [e]; simp) rfl)
    clear h hc hcv hr hK hi hno HTill
    unfold maxLen at hs
    go_enter Tryd.func109, Tryd.ntmps109
    go_wp2_with (first
      | (go_at_call 118; refine HN.out.mono ?_; rintro e w1 ⟨rfl, q, rfl⟩; have h1 := HS.out.drewN q)
      | (go_at_call 119; refine (HI.out _).mono ?_; rintro e w2 ⟨rfl, rfl⟩)
      | (go_at_call 120; refine (HT.out _ _ (by decide) (by assumption)).mono ?_; rintro e w3 ⟨rfl, h3⟩; simp at h3)
      | (go_at_call 121; refine (HTl.out _ (by assumption)).mono ?_; rintro e w4 ⟨rfl, h4⟩))
    go_ret
    exact ⟨false, rfl, h4.done (by omega) (by omega) (by omega) (by omega) (fun h => by cases h) (fun _ => Hno.out)⟩
  · have HTl := Lib.hid (fun W hR => (HTill.out W hR).2 o hi ho)
    have HNm : Hid (∀ W, Now w W g s (k + 1 + o + 1) (max dp d) → Calls Tryd.prog 123 #[.string (s.extract (k + 1) (k + 1 + o))] W fun e w' => e = .returned (.bool (nameB (nums (s.extract (k + 1) (k + 1 + o))))) ∧ Now w w' g s (k + 1 + o + 1) (max dp d)) := Lib.hid (fun W hR => by
      refine (isname_any _ W (hK.grown hR.2 hg0) ?_).mono fun e w' ⟨h1, h2⟩ => ⟨h1, hR.below h2⟩
      have := nums_length (s.extract (k + 1) (k + 1 + o))
      rw [nums_extract s _ _ (by omega), List.length_take] at this
      unfold maxLen at hs ⊢
      omega)
    have Hyes : Hid (nameB (nums (s.extract (k + 1) (k + 1 + o))) = true → Ty false (sfx s k) (sfx s (k + 1 + o + 1))) := Lib.hid (fun hb => by
      rw [hc, ← hr, hsp]
      exact .struct hb)
    have Hno : Hid (nameB (nums (s.extract (k + 1) (k + 1 + o))) = false → ∀ r, ¬ Ty false (sfx s k) r) := Lib.hid (fun hb r' ht => by
      rw [hc, ← hr, hsp] at ht
      obtain ⟨w, e, hw⟩ := ty_struct ht
      obtain ⟨e2, _⟩ := split_unique (c := 59) hne (name_semi hw) e
      rw [e2, hw] at hb
      cases hb)
    generalize nameB (nums (s.extract (k + 1) (k + 1 + o))) = nb at *
    clear h hc hcv hr hK hi hsp hne HTill
    unfold maxLen at hs
    go_enter Tryd.func109, Tryd.ntmps109
    go_wp2_with (first
      | (go_at_call 118; refine HN.out.mono ?_; rintro e w1 ⟨rfl, q, rfl⟩; have h1 := HS.out.drewN q)
      | (go_at_call 119; refine (HI.out _).mono ?_; rintro e w2 ⟨rfl, rfl⟩)
      | (go_at_call 120; refine (HT.out _ _ (by decide) (by assumption)).mono ?_; rintro e w3 ⟨rfl, h3⟩; simp at h3)
      | (go_at_call 121; refine (HTl.out _ (by assumption)).mono ?_; rintro e w4 ⟨rfl, h4⟩)
      | (go_at_call 123; refine (HNm.out _ (by assumption)).mono ?_; rintro e w5 ⟨rfl, h5⟩))
    go_ret
    exact ⟨nb, rfl, h5.done (by omega) (by omega) (by omega) (by omega) Hyes.out Hno.out⟩
end
end Go.Proofs.YtejhphnlickjlaaDoor.ty
