/-
  Contracts of signed and next of the reference's types. No condition but lengths.
-/
import Derived.Test.YtejhphnlickjlaaDoorTyM
set_option linter.unusedVariables false
set_option linter.unusedSimpArgs false
namespace Go.Proofs.YtejhphnlickjlaaDoor.ty
open Go.ChangeShapes Go.WideShapes Go.RowKit
open M T
set_option linter.unusedVariables false
def NxB (s : ByteArray) (k : Nat) (w : World) (i : Int) (b : Bool) (w' : World) : Prop :=
  (b = true → ∃ k' : Nat, i = (k' : Int) ∧ k' ≤ s.size ∧ Ty false (sfx s k) (sfx s k')) ∧ (b = false → ∀ r, ¬ Ty false (sfx s k) r) ∧ Below w.heap.size w w'
def NxS (s : ByteArray) (k : Nat) (w : World) (e : Ending) (w' : World) : Prop := ∃ (i : Int) (b : Bool), e = .returned (.tuple #[.int .i64 i, .bool b]) ∧ NxB s k w i b w'
def PNx (f : FuncId) (s : ByteArray) (n : Nat) : Prop := ∀ (k : Nat) (w : World), k ≤ s.size → s.size - k ≤ n → Calls Tryd.prog f #[.string s, .int .i64 k] w (NxS s k w)
section
variable {s : ByteArray} {n : Nat} {k : Nat} {w W : World}
theorem NxB.lift {k2 : Nat} {i : Int} {b : Bool} {w' : World} (h : NxB s k2 W i b w') (hW : Below w.heap.size w W) (hyes : ∀ k', Ty false (sfx s k2) (sfx s k') → Ty false (sfx s k) (sfx s k')) (hno : (∀ r, ¬ Ty false (sfx s k2) r) → ∀ r, ¬ Ty false (sfx s k) r) : NxB s k w i b w' :=
  ⟨fun hb => let ⟨k', h1, h2, h3⟩ := h.1 hb; ⟨k', h1, h2, hyes k' h3⟩, fun hb => hno (h.2.1 hb), hW.trans (h.2.2.mono hW.size)⟩
theorem NxB.not {w' : World} {i : Int} (hW : Below w.heap.size w w') (hno : ∀ r, ¬ Ty false (sfx s k) r) : NxB s k w i false w' := ⟨(fun h => by cases h), fun _ => hno, hW⟩
theorem NxB.yes {w' : World} {k' : Nat} (hW : Below w.heap.size w w') (hk : k' ≤ s.size) (h : Ty false (sfx s k) (sfx s k')) : NxB s k w k' true w' := ⟨fun _ => ⟨k', rfl, hk, h⟩, (fun h => by cases h), hW⟩
set_option maxHeartbeats 1600000 in
theorem signed_any (hs : s.size ≤ maxLen) (hP : PNx 87 s n) (k : Nat) (w : World) (hk : k ≤ s.size) (hn : s.size - k ≤ n + 1) (r : List Int) (hc : sfx s k = 102 :: r) :
    Calls Tryd.prog 97 #[.string s, .int .i64 k] w (NxS s k w) := by
  obtain ⟨hlt, hcv, hr⟩ := sfx_head hc
  obtain ⟨j, hj⟩ : ∃ j, j = k + 1 := ⟨_, rfl⟩
  obtain ⟨j2, hj2⟩ : ∃ j2, j2 = k + 2 := ⟨_, rfl⟩
  have hjI : (k : Int) + 1 = (j : Int) := by omega
  have hjI2 : (k : Int) + 2 = (j2 : Int) := by omega
  have hkj : k < j2 := by omega
  by_cases hp : ∃ r2, r = 40 :: r2
  · obtain ⟨r2, rfl⟩ := hp
    obtain ⟨hlt2, hcv2, hr2⟩ := sfx_head hr
    have hjl : j < s.size := by omega
    have hq : ((s[j].toNat : Int) != 40) = false := by subst hj; simp; omega
    have HRec : Hid (∀ W k2, Below w.heap.size w W → k2 ≤ s.size → k < k2 → Calls Tryd.prog 87 #[.string s, .int .i64 (k2 : Int)] W (NxS s k2 W)) := Lib.hid (fun W k2 _ h1 h2 => hP k2 W h1 (by omega))
    have HRec1 : Hid (∀ W k2, Below w.heap.size w W → k2 < s.size → k < k2 → Calls Tryd.prog 87 #[.string s, .int .i64 ((k2 : Int) + 1)] W (NxS s (k2 + 1) W)) := Lib.hid (fun W k2 _ h1 h2 => by
      have := hP (k2 + 1) W (by omega) (by omega)
      rwa [show ((k2 + 1 : Nat) : Int) = (k2 : Int) + 1 from by omega] at this)
    have hs2 : sfx s j2 = r2 := by rw [hj2]; exact hr2
    have Hsh : Hid (∀ k2, j2 ≤ k2 → ParEq s j2 k2 → ∀ k3, k2 ≤ s.size → Ty false (sfx s k2) (sfx s k3) → k3 ≤ s.size → k2 < k3) := Lib.hid (fun k2 _ _ k3 h1 h2 h3 => by
      have := h2.shorter
      rw [sfx_length, sfx_length] at this
      omega)
    have HC : Hid (sfx s k = 102 :: 40 :: sfx s j2) := Lib.hid (by rw [hc, hs2])
    by_cases h41 : ∃ r3, r2 = 41 :: r3
    · obtain ⟨r3, rfl⟩ := h41
      obtain ⟨hlt3, hcv3, hr3⟩ := sfx_head hs2
      have hq2 : ((s[j2].toNat : Int) == 41) = true := by simp; omega
      have Hyes : Hid (∀ k', Ty false (sfx s (j2 + 1)) (sfx s k') → Ty false (sfx s k) (sfx s k')) := Lib.hid (fun k' h => by rw [HC.out, hs2]; exact .fn0 (by rw [← hr3]; exact h))
      have Hno : Hid ((∀ r, ¬ Ty false (sfx s (j2 + 1)) r) → ∀ r, ¬ Ty false (sfx s k) r) := Lib.hid (fun h r' ht => by
        rw [HC.out, hs2] at ht
        obtain ⟨x, e, hz⟩ := ty_fn ht
        injection e with _ e
        subst e
        rcases hz with ⟨m, e, hm⟩ | ⟨m, hm, hm2⟩
        · injection e with _ e
          rw [hr3] at h
          rw [← e] at hm
          exact h _ hm
        · exact hm.head _ rfl)
      clear hc hcv hr hP hcv2 hr2 hs2 hcv3 hr3
      have Hj := Lib.hid hj
      have Hj2 := Lib.hid hj2
      clear hj hj2
      unfold maxLen at hs
      go_enter Tryd.func97, Tryd.ntmps97
      go_wp2_with (go_at_call 87; refine (HRec1.out _ j2 (Below.refl _ _) (by omega) (by omega)).mono ?_; rintro e w2 ⟨i, b, rfl, h2⟩; have H2 := Lib.hid (h2.lift (w := w) (k := k) (Below.refl _ _) Hyes.out Hno.out); clear h2)
      go_ret2
      exact ⟨i, b, rfl, H2.out⟩
    · have Hn41 : Hid (∀ r, sfx s j2 ≠ 41 :: r) := Lib.hid (fun r e => h41 ⟨r, by rw [← hs2]; exact e⟩)
      have hq2 : ∀ (h : j2 < s.size), ((s[j2].toNat : Int) == 41) = false := fun h => by
        rw [beq_eq_false_iff_ne]
        intro e
        exact Hn41.out _ (by rw [sfx_cons s j2 h, e])
      have Hyes : Hid (∀ m k', Ty true (sfx s j2) m → Ty false m (sfx s k') → Ty false (sfx s k) (sfx s k')) := Lib.hid (fun m k' h h2 => by rw [HC.out]; exact .fn h h2)
      have Hno : Hid (∀ r, Ty false (sfx s k) r → ∃ m, Ty true (sfx s j2) m ∧ Ty false m r) := Lib.hid (fun r' ht => by
        rw [HC.out] at ht
        obtain ⟨x, e, hz⟩ := ty_fn ht
        injection e with _ e
        subst e
        rcases hz with ⟨m, e, hm⟩ | ⟨m, hm, hm2⟩
        · exact absurd e (Hn41.out _)
        · exact ⟨m, hm, hm2⟩)
      clear hc hcv hr hP hcv2 hr2 hs2 h41
      have hj2l : j2 ≤ s.size := by omega
      have Hj := Lib.hid hj
      have Hj2 := Lib.hid hj2
      clear hj hj2
      unfold maxLen at hs
      by_cases hjj : j2 < s.size
      case' pos => have hq3 := hq2 hjj
      all_goals
        clear hq2
        have hnj : ¬ s.size ≤ j := by omega
        go_enter Tryd.func97, Tryd.ntmps97
        go_wp2_with fail
        go_loopg [6] (s.size - j2) (fun N x wr => ∃ k2 : Nat, N = s.size - k2 ∧ x = .int .i64 k2 ∧ j2 ≤ k2 ∧ k2 ≤ s.size ∧ Below w.heap.size w wr ∧ ParEq s j2 k2)
        case atStart => exact ⟨j2, rfl, rfl, Nat.le_refl _, hj2l, Below.refl _ _, fun r => Iff.rfl⟩
        case round =>
          obtain ⟨k2, rfl, rfl, i1, i2, i3, i4⟩ := hrel
          have I3 := Lib.hid i3
          have I4 := Lib.hid i4
          clear i3 i4
          go_wp2_with fail
          refine (HRec.out _ k2 I3.out i2 (by omega)).mono ?_
          rintro e w2 ⟨i, b, rfl, h2⟩
          have hb2 : Below w.heap.size w w2 := I3.out.trans (h2.2.2.mono I3.out.size)
          have HB2 := Lib.hid hb2
          clear hb2
          cases b with
          | false =>
            have H2 := Lib.hid (h2.2.1 rfl)
            clear h2
            go_wp2_with fail
            go_ret2
            exact ⟨0, false, rfl, .not HB2.out (fun r hr => by
              obtain ⟨m, hm, _⟩ := Hno.out r hr
              rcases ty_params ((I4.out m).1 hm) with hx | ⟨m, hx, _⟩
              · exact H2.out _ hx
              · exact H2.out _ hx)⟩
          | true =>
            obtain ⟨k3, rfl, h3, h4⟩ := h2.1 rfl
            have H4 := Lib.hid h4
            have hk3 := Hsh.out k2 i1 I4.out k3 i2 h4 h3
            clear h2 h4
            (try (exfalso; omega)) <;> (
              by_cases hl3 : k3 < s.size
              · by_cases h41 : (s[k3].toNat : Int) = 41
                · have e41 : ((s[k3].toNat : Int) != 41) = false := by simp; omega
                  have e44 : ((s[k3].toNat : Int) != 44) = true := by simp; omega
                  have f41 : ((s[k3].toNat : Int) == 41) = true := by simp; omega
                  have hx : sfx s k3 = 41 :: sfx s (k3 + 1) := by rw [sfx_cons s k3 hl3, h41]
                  have Hpar : Hid (Ty true (sfx s j2) (sfx s (k3 + 1))) := Lib.hid ((I4.out _).2 (.one (by rw [← hx]; exact H4.out)))
                  clear hx h41
                  go_wp2_with (go_at_call 87; refine (HRec1.out _ k3 HB2.out (by omega) (by omega)).mono ?_; rintro e w3 ⟨i, b, rfl, h5⟩; have H5 := Lib.hid (h5.lift (w := w) (k := k) HB2.out (fun k' hk' => Hyes.out _ _ Hpar.out hk') (fun hno r hr => by
                    obtain ⟨m, hm, hm2⟩ := Hno.out r hr
                    rw [Hpar.out.unique _ hm] at hno
                    exact hno _ hm2)); clear h5)
                  go_ret2
                  exact ⟨i, b, rfl, H5.out⟩
                · have e41 : ((s[k3].toNat : Int) != 41) = true := by simp; omega
                  have f41 : ((s[k3].toNat : Int) == 41) = false := by simp; omega
                  have Hne : Hid (∀ r, sfx s k3 ≠ 41 :: r) := Lib.hid (fun r e => h41 (by rw [sfx_cons s k3 hl3] at e; injection e))
                  by_cases h44 : (s[k3].toNat : Int) = 44
                  · have e44 : ((s[k3].toNat : Int) != 44) = false := by simp; omega
                    have hx : sfx s k3 = 44 :: sfx s (k3 + 1) := by rw [sfx_cons s k3 hl3, h44]
                    have HE : Hid (ParEq s j2 (k3 + 1)) := Lib.hid (fun q => (I4.out q).trans ⟨fun hy => by
                      rcases ty_params hy with hy | ⟨m, hy, hz⟩
                      · exact absurd (H4.out.unique _ hy) (Hne.out _)
                      · have e := H4.out.unique _ hy
                        rw [hx] at e
                        injection e with _ e
                        rw [e]
                        exact hz, fun hy => .more (by rw [← hx]; exact H4.out) hy⟩)
                    clear hx h41 h44
                    go_wp2_with fail
                    go_roundg (s.size - (k3 + 1))
                    case measure => omega
                    case rel =>
                      exact ⟨k3 + 1, rfl, by go_num, by omega, by omega, HB2.out, HE.out⟩
                  · have e44 : ((s[k3].toNat : Int) != 44) = true := by simp; omega
                    have Hne2 : Hid (∀ r, sfx s k3 ≠ 44 :: r) := Lib.hid (fun r e => h44 (by rw [sfx_cons s k3 hl3] at e; injection e))
                    clear h41 h44
                    go_wp2_with fail
                    go_ret2
                    exact ⟨0, false, rfl, .not HB2.out (fun r hr => by
                      obtain ⟨m, hm, _⟩ := Hno.out r hr
                      rcases ty_params ((I4.out m).1 hm) with hx | ⟨m, hx, _⟩
                      · exact Hne.out _ (H4.out.unique _ hx)
                      · exact Hne2.out _ (H4.out.unique _ hx))⟩
              · have Hnil : Hid (sfx s k3 = []) := Lib.hid (sfx_nil s k3 (by omega))
                go_wp2_with fail
                go_ret2
                exact ⟨0, false, rfl, .not HB2.out (fun r hr => by
                  obtain ⟨m, hm, _⟩ := Hno.out r hr
                  rcases ty_params ((I4.out m).1 hm) with hx | ⟨m, hx, _⟩
                  · have := H4.out.unique _ hx; rw [Hnil.out] at this; cases this
                  · have := H4.out.unique _ hx; rw [Hnil.out] at this; cases this)⟩)
  · have Hno : Hid (∀ r, ¬ Ty false (sfx s k) r) := Lib.hid (fun r' ht => by
      rw [hc] at ht
      obtain ⟨x, e, _⟩ := ty_fn ht
      exact hp ⟨x, e⟩)
    by_cases hjl : j < s.size
    · have hq : ((s[j].toNat : Int) != 40) = true := by
        rw [bne_iff_ne]
        intro e
        exact hp ⟨sfx s (j + 1), by rw [← hr, ← hj, sfx_cons s j hjl, e]⟩
      clear hc hcv hr hP hp
      have Hj := Lib.hid hj
      have Hj2 := Lib.hid hj2
      clear hj hj2
      unfold maxLen at hs
      go_enter Tryd.func97, Tryd.ntmps97
      go_wp2_with fail
      go_ret2
      exact ⟨0, false, rfl, .not (Below.refl _ _) Hno.out⟩
    · clear hc hcv hr hP hp
      have Hj := Lib.hid hj
      have Hj2 := Lib.hid hj2
      clear hj hj2
      unfold maxLen at hs
      go_enter Tryd.func97, Tryd.ntmps97
      go_wp2_with fail
      go_ret2
      exact ⟨0, false, rfl, .not (Below.refl _ _) Hno.out⟩
end
end Go.Proofs.YtejhphnlickjlaaDoor.ty
