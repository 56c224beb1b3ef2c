/-
  The law GapBack holds: for every total, every list of gaps and every size, giving back what Take has just taken makes the list what it was, and what is refused leaves nothing. No condition.
-/
import Derived.Test.YtinjfmcmjhehoaaGapU
import Derived.ProofKit
import Derived.OpenShut
import Derived.ChangeOld
import Derived.SizedLaws
import Derived.Carry
namespace Go.Proofs.Ytinjfmcmjhehoaa.gapBack
open Go.ChangeShapes Go.WideShapes Go.ChangeAt Go.RowKit
open M G gaps
set_option linter.unusedVariables false
theorem law_back (t s : Int) (A : Option Addr) (n c : Nat) (l : List Gap) (w : World) (hl : l.length = n) (hreach : n * 16 ≤ 140737488351232) (hc : n ≤ c) (hcm : c ≤ maxLen) (hA : Rd w w.heap.size A (cells l)) :
    Calls Try.prog 9 #[.int .i64 t, .slice A n c, .int .i64 s] w fun e w' => e = .returned (.bool true) ∧ Below w.heap.size w w' := by
  have hnm : n ≤ maxLen := by unfold maxLen; omega
  have HA : Hid (∀ W : World, Below w.heap.size w W → Rd W W.heap.size A (cells l)) := Lib.hid (fun W hb => (hA.below hb).more hb.size)
  have HT : Hid (∀ (W : World), Rd W W.heap.size A (cells l) → Calls Try.prog 41 #[.int .i64 t, .slice A n c, .int .i64 s] W (TakeS W (takeA t l s).1 (takeA t l s).2.1 (takeA t l s).2.2)) :=
    Lib.hid (fun W h2 => (Take_any t A n c l s W hl hnm hc h2).mono fun _ _ h => h.form)
  have HF : Hid (∀ (W : World), Rd W W.heap.size A (cells l) → Calls Try.prog 49 #[.int .i64 t, .slice A n c] W (FreeS W (freeR t l).1 (freeR t l).2.1 (freeR t l).2.2)) :=
    Lib.hid (fun W h2 => Free_any t A n c l W hl hnm h2)
  have HW := Lib.hid (works_any)
  by_cases h4 : (takeA t l s).2.2 = 4
  · obtain ⟨hs, hf0, hlt⟩ := take_none_plain h4
    obtain ⟨u1, u2, u3, u4, u5, u6⟩ := up_pos hs
    rw [h4] at HT
    have hlt' : (freeR t l).2.1 < (s + 16 - 1) / 16 * 16 := by unfold up at hlt; rw [show s + 16 - 1 = s + 15 from by omega]; exact hlt
    clear hlt
    unfold FreeS at HF
    unfold TakeS at HT
    rw [hf0] at HF
    clear h4 hs hf0 hA hl
    generalize (freeR t l).1 = a at *
    generalize (freeR t l).2.1 = b at *
    generalize (takeA t l s).1 = r at *
    generalize (takeA t l s).2.1 = q at *
    go_enter Try.func9, Try.ntmps9
    go_wp2_with (first
      | (go_at_call 43; refine (HW.out _).mono ?_; rintro e w1 ⟨rfl, hb1⟩)
      | (go_at_call 41; refine (HT.out _ (HA.out _ hb1)).mono ?_; rintro e w2 ⟨A2, c2, rfl, -, -, -, hb2⟩; have b2 : Below w.heap.size w w2 := hb1.trans (hb2.mono hb1.size))
      | (go_at_call 49; refine (HF.out _ (HA.out _ b2)).mono ?_; rintro e w3 ⟨rfl, hb3⟩; have b3 : Below w.heap.size w w3 := b2.trans (hb3.mono b2.size)))
    go_ret
    exact ⟨rfl, b3⟩
  · by_cases h0 : (takeA t l s).2.2 = 0
    · obtain ⟨hs, f0, f1, hd, r1, r2, r3, r4, hg⟩ := take_ok_plain h0
      obtain ⟨u1, u2, u3, u4, u5, u6⟩ := up_pos hs
      rw [h0] at HT
      have HF2 : Hid (∀ (W : World) (A' : Option Addr) (c' : Nat), (takeA t l s).1.length ≤ maxLen → Rd W W.heap.size A' (cells (takeA t l s).1) → Calls Try.prog 49 #[.int .i64 t, .slice A' (takeA t l s).1.length c'] W (FreeS W (freeR t (takeA t l s).1).1 (freeR t (takeA t l s).1).2.1 (freeR t (takeA t l s).1).2.2)) :=
        Lib.hid (fun W A' c' h1 h2 => Free_any t A' _ c' _ W rfl h1 h2)
      have HG : Hid (∀ (W : World) (A' : Option Addr) (c' : Nat), (takeA t l s).1.length ≤ c' → c' ≤ maxLen → Rd W W.heap.size A' (cells (takeA t l s).1) → Calls Try.prog 47 #[.int .i64 t, .slice A' (takeA t l s).1.length c', .agg #[.int .i64 (takeA t l s).2.1, .int .i64 s]] W (GiveS W l 0)) :=
        Lib.hid (fun W A' c' h1 h2 h3 => by
          have := Give_any t A' _ c' (takeA t l s).1 (takeA t l s).2.1 s W rfl (Nat.le_trans h1 h2) h1 h2 h3
          rwa [hg] at this)
      have HS : Hid (∀ (W : World) (A' B' : Option Addr) (c' d' : Nat), Rd W W.heap.size A' (cells l) → Rd W W.heap.size B' (cells l) → Calls Try.prog 38 #[.slice A' n c', .slice B' n d'] W fun e w' => e = .returned (.bool true) ∧ Below W.heap.size W w') :=
        Lib.hid (fun W A' B' c' d' h1 h2 => same_self A' B' n c' d' hnm W l hl h1 h2)
      unfold FreeS at HF HF2
      unfold TakeS at HT
      unfold GiveS at HG
      rw [f0] at HF
      rw [f1] at HF2
      have hd' : ((freeR t l).1 - (freeR t (takeA t l s).1).1 == (s + 16 - 1) / 16 * 16) = true := by
        rw [hd, show s + 16 - 1 = s + 15 from by omega]; exact beq_self_eq_true _
      rw [hl] at HG
      clear h0 h4 hs f0 f1 hA hd hg hl
      generalize (freeR t (takeA t l s).1).1 = b at *
      generalize (freeR t (takeA t l s).1).2.1 = b' at *
      generalize (freeR t l).1 = a at *
      generalize (freeR t l).2.1 = a' at *
      generalize (takeA t l s).1 = r at *
      generalize (takeA t l s).2.1 = q at *
      go_enter Try.func9, Try.ntmps9
      go_wp2_with (first
        | (go_at_call 43; refine (HW.out _).mono ?_; rintro e w1 ⟨rfl, hb1⟩)
        | (go_at_call 41; refine (HT.out _ (HA.out _ hb1)).mono ?_; rintro e w2 ⟨A2, c2, rfl, hk2, hm2, hown2, hb2⟩; have b2 : Below w.heap.size w w2 := hb1.trans (hb2.mono hb1.size); have R2 := Lib.hid (rd_later hown2)))
      refine (HF.out _ (HA.out _ b2)).mono ?_
      rintro e w3 ⟨rfl, hb3⟩
      have b3 : Below w2.heap.size w2 w3 := hb3
      have b3' : Below w.heap.size w w3 := b2.trans (b3.mono b2.size)
      go_wp2_with fail
      refine (HF2.out _ A2 c2 (Nat.le_trans hk2 hm2) (R2.out _ b3)).mono ?_
      rintro e w4 ⟨rfl, hb4⟩
      have b4 : Below w2.heap.size w2 w4 := b3.trans (hb4.mono b3.size)
      have b4' : Below w.heap.size w w4 := b2.trans (b4.mono b2.size)
      go_wp2_with fail
      refine (HG.out _ A2 c2 hk2 hm2 (R2.out _ b4)).mono ?_
      rintro e w5 ⟨A5, c5, rfl, hk5, hm5, hown5, hb5⟩
      have b5' : Below w.heap.size w w5 := b4'.trans (hb5.mono b4'.size)
      go_wp2_with fail
      refine (HS.out _ A5 A c5 c (Rd.of_own hown5) (HA.out _ b5')).mono ?_
      rintro e w6 ⟨rfl, hb6⟩
      go_wp2_with fail
      go_ret
      exact ⟨rfl, b5'.trans (hb6.mono b5'.size)⟩
    · obtain ⟨e1, e2⟩ := take_bad_plain h0
      have hb4 : ((takeA t l s).2.2 == 4) = false := by simp [h4]
      have hb0 : ((takeA t l s).2.2 != 0) = true := by simp [h0]
      rw [e1, e2] at HT
      unfold TakeS at HT
      clear hA hl e1 e2 h4 h0
      generalize (takeA t l s).2.2 = er at *
      go_enter Try.func9, Try.ntmps9
      go_wp2_with (first
        | (go_at_call 43; refine (HW.out _).mono ?_; rintro e w1 ⟨rfl, hb1⟩)
        | (go_at_call 41; refine (HT.out _ (HA.out _ hb1)).mono ?_; rintro e w2 ⟨A2, c2, rfl, -, -, -, hb2⟩; have b2 : Below w.heap.size w w2 := hb1.trans (hb2.mono hb1.size)))
      go_ret
      exact ⟨rfl, b2⟩
set_option maxRecDepth 100000 in
theorem lifted (os : Os) (started : os.Started) (H : Type) (enc : TypeId × Value → H) :
    ReturnsInHanded {} Try.checked os 9 .any (Rows.gapBackSpec.pre6 enc Try.prog Try.f9 Rows.gapBackRow.domain false) (Rows.gapBackSpec.post enc Try.prog Try.f9 false true false false) := by
  refine returnsInHanded_of_change_sized (C := Try.checked) own started (by kernel_rfl) Try.func9
    (ChangeSpec.witness6 (enc := enc) (C := Try.checked) false ⟨#[], #[.int .i64 0, .slice none 0 0, .int .i64 0], []⟩ 8 (by kernel_rfl) (by kernel_rfl) (by kernel_rfl) (by kernel_rfl)) ?_
  intro W base args ds gs before hval0 hW _ hsz0 _
  have hsz : (DataW.weightsEach Try.prog (Try.f9.params.toList ++ Rows.gapBackSpec.plain.varTypes Try.prog) (ds ++ gs)).all (· ≤ reachBytes) = true := hsz0
  clear hsz0
  have hval : ∀ (j : Nat) t v, Try.f9.params[j]? = some t → args[j]? = some v → Value.okWide Try.prog W .any base t v := hval0
  have hW' := hW
  obtain ⟨p, q, hA0, hV, rfl, _, _⟩ := hW
  have hA : DataW.TrodAll enc Try.prog W 0 (fun _ => true) true Try.f9.params.toList args.toList ds p := hA0
  rw [Try.params9] at hA hval hsz
  obtain ⟨v0, v1, v2, d0, d1, d2, p0, p1, p2, rfl, rfl, rfl, h0, h1, h2⟩ := trodAll_three hA
  obtain ⟨rfl, rfl⟩ := trodVars_none hV
  obtain ⟨a0, rfl, rfl, rfl, w0⟩ := open_int Try.underlying3 (hval 0 3 v0 rfl rfl) h0
  obtain ⟨a2, rfl, rfl, rfl, w2⟩ := open_int Try.underlying3 (hval 2 3 v2 rfl rfl) h2
  have k1 := h1
  have lt1 : ∀ x ∈ p1, x.block < W.heap.size := by obtain ⟨m, hm⟩ := k1; exact DataW.trod_lt m _ _ _ hm
  obtain ⟨fuel, hf⟩ := h1
  obtain ⟨A, n, c, l, rfl, hl, hc, hcm, hR, hd⟩ := open_gaps hf (by obtain ⟨A, n, c, h⟩ := okWide_slice Try.underlying39 (hval 1 39 v1 rfl rfl); exact ⟨A, n, c, h⟩)
  have hreach : n * 16 ≤ 140737488351232 := by
    rcases hd with ⟨_, rfl⟩ | ⟨es, sp, hd, hlen⟩
    · omega
    · simp only at hd
      subst hd
      have := sized_slice hsz (j := 1) (t := 39) (e := 47) rfl rfl Try.underlying39
      rw [bytes47, hlen] at this
      unfold reachBytes at this
      omega
  clear hA0 hval0
  refine (law_back a0 a2 A n c l W hl hreach hc hcm hR).mono fun e W' ⟨he, bel⟩ => ?_
  subst he
  exact ⟨_, rfl, _, _, _, [], _, [], hW', trodAll_mk1 (shut_bool Try.underlying4 _), (trodAll_cons_mk (shut_int Try.underlying3 w0) (trodAll_cons_mk (Below.trod laidOut (by kernel_rfl) (of_decide_eq_true (by kernel_rfl)) k1 bel lt1) (trodAll_cons_mk (shut_int Try.underlying3 w2) trodAll_mk0))), rfl, bel.frame _, fun h => by cases h⟩

theorem over : Rows.gapBackRow.holds Try.pinned (OpenSpec.ofChange Rows.gapBackSpec) :=
  OpenClaim.holds_of_wide 9 Try.f9 rfl rfl rfl rfl rfl rfl rfl ⟨rfl, rfl, rfl, rfl, rfl⟩ rfl rfl rfl rfl rfl (by kernel_rfl) Try.func9 (by kernel_rfl)
    (of_decide_eq_true (by kernel_rfl)) (by unfold Func.isWrapper; first | (rw [if_pos (by decide +kernel)]; kernel_rfl) | (rw [if_neg (by decide +kernel)]; exact ⟨rfl, rfl⟩))
    (fun os started H enc _ => lifted os started H enc)

theorem proved : Rows.GapBackSaid := over
#print axioms proved
end Go.Proofs.Ytinjfmcmjhehoaa.gapBack
