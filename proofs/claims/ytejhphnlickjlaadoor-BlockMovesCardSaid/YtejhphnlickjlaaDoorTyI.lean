/-
  The contract of the parameters of types' codes, of reading as a whole, and of Form and IsScalar of package types. Condition: the table of keywords stands in memory.
-/
import Derived.Test.YtejhphnlickjlaaDoorTyH
import Derived.Deep.LoopGhost
set_option linter.unusedVariables false
set_option linter.unusedSimpArgs false
namespace Go.Proofs.YtejhphnlickjlaaDoor.ty
open Go.ChangeShapes Go.WideShapes Go.RowKit
open M T
set_option linter.unusedVariables false
section
variable {g : Nat} {s : ByteArray} {n : Nat} {k d dp : Nat} {w W : World}
theorem RdB.code {k2 d2 dp2 : Nat} {b : Bool} {w' : World} (h : RdB false W g s k2 d2 dp2 b w') (hN : Now w W g s k2 dp2) :
    (b = true → ∃ k' dp', Now w w' g s k' dp' ∧ k' ≤ s.size ∧ dp2 ≤ dp' ∧ dp' ≤ 140000 ∧ Ty false (sfx s k2) (sfx s k')) ∧ (b = false → ∃ k' dp', Now w w' g s k' dp' ∧ k' ≤ s.size ∧ dp2 ≤ dp' ∧ dp' ≤ 140000 ∧ ∀ r, ¬ Ty false (sfx s k2) r) := by
  obtain ⟨k', dp', h1, h2, h3, h4, h5, h6, h7, h8⟩ := h
  refine ⟨fun hb => ⟨k', dp', ⟨h1, hN.2.trans h2⟩, h3, h4, h6, ?_⟩, fun hb => ⟨k', dp', ⟨h1, hN.2.trans h2⟩, h3, h4, h6, fun r hr => (h8 hb r).1 hr⟩⟩
  rcases h7 hb with h | h
  · exact h
  · cases h.1
theorem Now.doneP {k' dp' : Nat} {b : Bool} (h : Now w W g s k' dp') (hk' : k' ≤ s.size) (h1 : dp ≤ dp') (h3 : dp' ≤ 140000) (hyes : b = true → PrT (sfx s k) (sfx s k')) (hno : b = false → ∀ r, ¬ PrT (sfx s k) r) : RdB true w g s k d dp b W :=
  ⟨k', dp', h.1, h.2, hk', h1, (fun h => by cases h), h3, fun hb => (hyes hb).elim .inl (fun x => .inr ⟨rfl, x⟩), fun hb r => ⟨fun x => hno hb r (.inl x), fun x => hno hb r (.inr x.2)⟩⟩
def ParEq (s : ByteArray) (k k2 : Nat) : Prop := ∀ r, Ty true (sfx s k) r ↔ Ty true (sfx s k2) r
set_option maxHeartbeats 1600000 in
theorem params_of (hs : s.size ≤ maxLen) (hP : PRead 109 false 0 g s n) (hg0 : 0 < g) : PRead 124 true 1 g s n := by
  intro k d dp w h hK hk hn hd hdp
  have HN : Hid (Now w w g s k dp) := Lib.hid ⟨h, World.grownBy.refl w _⟩
  by_cases h41 : ∃ r, sfx s k = 41 :: r
  · obtain ⟨r, hr⟩ := h41
    obtain ⟨hlt, _, hr2⟩ := sfx_head hr
    have HT := Lib.hid ((take_all hs 41 w (by decide) HN.out).1 r hr)
    have Hyes : Hid (PrT (sfx s k) (sfx s (k + 1))) := Lib.hid (.inr (by rw [hr, hr2]))
    clear hr hr2 h hK hP
    go_enter Tryd.func124, Tryd.ntmps124
    go_wp2_with (go_at_call 120; refine HT.out.mono ?_; rintro e w1 ⟨rfl, h1⟩)
    go_ret
    exact ⟨true, rfl, h1.doneP (by omega) (by omega) (by omega) (fun _ => Hyes.out) (fun h => by cases h)⟩
  · have hno : ∀ r, sfx s k ≠ 41 :: r := fun r e => h41 ⟨r, e⟩
    have Hno := Lib.hid hno
    have HT := Lib.hid ((take_all hs 41 w (by decide) HN.out).2 hno)
    have Ht41 := Lib.hid (fun W (k2 dp2 : Nat) (hR : Now w W g s k2 dp2) => take_all hs 41 W (by decide) hR)
    have Ht44 := Lib.hid (fun W (k2 dp2 : Nat) (hR : Now w W g s k2 dp2) => take_all hs 44 W (by decide) hR)
    have HRec : Hid (∀ (W : World) (k2 dp2 : Nat), Now w W g s k2 dp2 → k2 ≤ s.size → k ≤ k2 → dp2 ≤ 140000 → Calls Tryd.prog 109 #[.pointer (some ⟨g, 0, none⟩), .int .i64 ((d : Int) + 1)] W (RdS false W g s k2 (d + 1) dp2)) := Lib.hid (fun W k2 dp2 hR h1 h2 h3 => by
      have := hP k2 (d + 1) dp2 W hR.1 (hK.grown hR.2 hg0) h1 (by omega) (by omega) h3
      rwa [show ((d + 1 : Nat) : Int) = (d : Int) + 1 from by omega] at this)
    clear h hK hP h41 hno
    go_enter Tryd.func124, Tryd.ntmps124
    go_wp2_with (go_at_call 120; refine HT.out.mono ?_; rintro e w1 ⟨rfl, h1⟩)
    go_loopg [9] (s.size - k) (fun N x wr => ∃ (k2 dp2 : Nat), N = s.size - k2 ∧ k ≤ k2 ∧ k2 ≤ s.size ∧ dp ≤ dp2 ∧ dp2 ≤ 140000 ∧ Now w wr g s k2 dp2 ∧ ParEq s k k2)
    case atStart => exact ⟨k, dp, rfl, Nat.le_refl _, hk, Nat.le_refl _, hdp, h1, fun r => Iff.rfl⟩
    case round =>
      obtain ⟨k2, dp2, rfl, i1, i2, i3, i4, i5, i6⟩ := hrel
      have H6 := Lib.hid i6
      clear i6 h1
      go_wp2_with (go_at_call 109; refine (HRec.out _ k2 dp2 i5 i2 i1 i4).mono ?_; rintro e w2 ⟨b, rfl, h2⟩; have H2 := Lib.hid (h2.code (w := w) i5); clear h2)
      · obtain rfl : b = false := by simpa using (by assumption : (!b) = true)
        go_ret
        obtain ⟨k', dp', j1, j2, j3, j4, j5⟩ := H2.out.2 rfl
        exact ⟨false, rfl, j1.doneP j2 (by omega) j4 (fun h => by cases h) (fun _ r hr => by
          rcases hr with hr | hr
          · rcases ty_params ((H6.out r).1 hr) with hx | ⟨m, hx, _⟩
            · exact j5 _ hx
            · exact j5 _ hx
          · exact Hno.out r hr)⟩
      · obtain rfl : b = true := by simpa using (by assumption : (!b) = false)
        obtain ⟨k3, dp3, j1, j2, j3, j4, j5⟩ := H2.out.1 rfl
        have J5 := Lib.hid j5
        have hshort := j5.shorter
        rw [sfx_length, sfx_length] at hshort
        clear j5
        by_cases hq : ∃ r, sfx s k3 = 41 :: r
        · obtain ⟨r, hr⟩ := hq
          obtain ⟨hlt3, _, hr3⟩ := sfx_head hr
          have Hyes : Hid (PrT (sfx s k) (sfx s (k3 + 1))) := Lib.hid (.inl ((H6.out _).2 (.one (by rw [hr3, ← hr]; exact J5.out))))
          refine ((Ht41.out _ k3 dp3 j1).1 r hr).mono ?_
          clear hr hr3
          rintro e w3 ⟨rfl, h3⟩
          go_wp2_with fail
          go_ret
          exact ⟨true, rfl, h3.doneP (by omega) (by omega) j4 (fun _ => Hyes.out) (fun h => by cases h)⟩
        · have Hq : Hid (∀ r, sfx s k3 ≠ 41 :: r) := Lib.hid (fun r e => hq ⟨r, e⟩)
          refine ((Ht41.out _ k3 dp3 j1).2 Hq.out).mono ?_
          clear hq
          rintro e w3 ⟨rfl, h3⟩
          by_cases hq2 : ∃ r, sfx s k3 = 44 :: r
          · obtain ⟨r, hr⟩ := hq2
            obtain ⟨hlt3, _, hr3⟩ := sfx_head hr
            have HT4 := Lib.hid ((Ht44.out _ k3 dp3 h3).1 r hr)
            have HE : Hid (ParEq s k (k3 + 1)) := Lib.hid (fun q => (H6.out q).trans ⟨fun hx => by
              rcases ty_params hx with hy | ⟨m, hy, hz⟩
              · exact absurd (J5.out.unique _ hy) (Hq.out _)
              · have e := J5.out.unique _ hy
                rw [hr] at e
                injection e with _ e
                rw [hr3, e]
                exact hz, fun hx => .more (by rw [hr3, ← hr]; exact J5.out) hx⟩)
            clear hr hr3
            go_wp2_with (go_at_call 120; refine HT4.out.mono ?_; rintro e w4 ⟨rfl, h4⟩)
            go_roundg (s.size - (k3 + 1))
            case measure => omega
            case rel => exact ⟨k3 + 1, dp3, rfl, by omega, by omega, by omega, j4, h4, HE.out⟩
          · have Hq2 : Hid (∀ r, sfx s k3 ≠ 44 :: r) := Lib.hid (fun r e => hq2 ⟨r, e⟩)
            have HT4 := Lib.hid ((Ht44.out _ k3 dp3 h3).2 Hq2.out)
            clear hq2
            go_wp2_with (go_at_call 120; refine HT4.out.mono ?_; rintro e w4 ⟨rfl, h4⟩)
            go_ret
            exact ⟨false, rfl, h4.doneP j2 (by omega) j4 (fun h => by cases h) (fun _ r hr => by
              rcases hr with hr | hr
              · rcases ty_params ((H6.out r).1 hr) with hx | ⟨m, hx, _⟩
                · exact Hq.out _ (J5.out.unique _ hx)
                · exact Hq2.out _ (J5.out.unique _ hx)
              · exact Hno.out r hr)⟩
theorem read_zero (hs : s.size ≤ maxLen) : PRead 109 false 0 g s 0 := by
  intro k d dp w h hK hk hn hd hdp
  exact read_end hs h hk (by omega) hdp (sfx_nil s k (by omega))
theorem read_step (hs : s.size ≤ maxLen) (hP : PRead 109 false 0 g s n) (hg0 : 0 < g) : PRead 109 false 0 g s (n + 1) := by
  have hQ := params_of hs hP hg0
  intro k d dp w h hK hk hn hd hdp
  have hd' : d + (s.size - k) ≤ 140000 := by omega
  rcases Nat.lt_or_ge k s.size with hlt | hge
  · have hc := sfx_cons s k hlt
    generalize (s[k].toNat : Int) = c at hc
    by_cases hb : baseC c = true
    · exact read_base hs h hk hd' hdp c _ hc hb
    · have hb' : baseC c = false := by simpa using hb
      by_cases n1 : c = 112
      · subst n1; exact read_ptr hs hP hg0 h hK hk hn hd' hdp _ hc
      · by_cases n2 : c = 97
        · subst n2; exact read_arr hs hP hg0 h hK hk hn hd' hdp _ hc
        · by_cases n3 : c = 83
          · subst n3; exact read_struct hs hg0 h hK hk hd' hdp _ hc
          · by_cases n4 : c = 102
            · subst n4; exact read_fn hs hP hQ hg0 h hK hk hn hd' hdp _ hc
            · exact read_other hs h hk hd' hdp c _ hc hb' n1 n2 n3 n4
  · exact read_end hs h hk hd' hdp (sfx_nil s k hge)
theorem read_all (hs : s.size ≤ maxLen) (hg0 : 0 < g) : ∀ n, PRead 109 false 0 g s n
  | 0 => read_zero hs
  | n + 1 => read_step hs (read_all hs hg0 n) hg0
end
end Go.Proofs.YtejhphnlickjlaaDoor.ty
