/-
  Contracts of Form, IsInt and IsScalar of package types.
-/
import Derived.Test.YtejhphnlickjlaaDoorTyI
import Derived.Deep.RegionHeld3
import Derived.Deep.DeepCutAuto
import Derived.Test.YtejhphnlickjlaaDoorText
set_option linter.unusedVariables false
set_option linter.unusedSimpArgs false
namespace Go.Proofs.YtejhphnlickjlaaDoor.ty
open Go.ChangeShapes Go.WideShapes Go.RowKit
open M T
set_option linter.unusedVariables false
theorem KeysIn.pos {w : World} (h : KeysIn w) : 0 < w.heap.size := by
  obtain ⟨ad, e, hb, _⟩ := h (by simp [strs, keyStrs, keys])
  injection e with e
  subst e
  exact hb
theorem Now.drew {w W : World} {g : Nat} {s : ByteArray} {k dp : Nat} (h : Now w W g s k dp) : Now w W.drew g s k dp := ⟨h.1, ⟨h.2.os, h.2.tape, h.2.output, h.2.size, h.2.block⟩⟩
theorem gb_to_below {w W : World} (h : w.grownBy W (some w.heap.size)) : Below w.heap.size w W := ⟨h.os, h.tape, h.output, h.size, fun k hk => h.block k hk (by simp; omega)⟩
def ReadD (w W : World) (g : Nat) (s : ByteArray) (b : Bool) : Prop := ∃ (k' dp' : Nat), Now w W g s k' dp' ∧ k' ≤ s.size ∧ 1 ≤ dp' ∧ dp' ≤ 140000 ∧ (b = true → Ty false (nums s) (sfx s k')) ∧ (b = false → ∀ r, ¬ Ty false (nums s) r)
theorem nat_ne (a b : Nat) : ((a : Int) != (b : Int)) = !decide (a = b) := by
  by_cases h : a = b
  · subst h; simp
  · have : ¬ (a : Int) = b := by omega
    simp [h]; omega
set_option maxHeartbeats 1600000 in
theorem depth_any (s : ByteArray) (w : World) (hK : KeysIn w) (hs : s.size ≤ maxLen) : Calls Tryd.prog 93 #[.string s] w fun e w' => ∃ n : Nat, e = .returned (.int .i64 n) ∧ (0 < n ↔ s.size ≤ 65536 ∧ Ty false (nums s) []) ∧ Below w.heap.size w w' := by
  by_cases h6 : s.size ≤ 65536
  · have hg0 := hK.pos
    have HR : Hid (∀ W, Now w W w.heap.size s 0 0 → Calls Tryd.prog 109 #[.pointer (some ⟨w.heap.size, 0, none⟩), .int .i64 1] W fun e w' => ∃ b, e = .returned (.bool b) ∧ ReadD w w' w.heap.size s b) := Lib.hid (fun W hW => by
      refine (read_all hs hg0 s.size 0 1 0 W hW.1 (hK.below (gb_to_below hW.2)) (Nat.zero_le _) (by omega) (by omega) (by omega)).mono ?_
      rintro e w' ⟨b, he, k', dp', h1, h2, h3, h4, h5, h6, h7, h8⟩
      exact ⟨b, he, k', dp', ⟨h1, hW.2.trans h2⟩, h3, h5 rfl, h6, fun hb => (h7 hb).elim id (fun x => by cases x.1), fun hb r => (h8 hb r).1⟩)
    have HN : Hid (Now w (w.alloc (.cells #[.string s, .int .i64 0, .int .i64 0] 149)) w.heap.size s 0 0) := Lib.hid ⟨by unfold Rdr; exact heap_alloc_new w _, World.grownBy_alloc _ _ _⟩
    have Hend : Hid (∀ k', k' ≤ s.size → (sfx s k' = [] ↔ k' = s.size)) := Lib.hid (fun k' hk' => ⟨fun h => sfx_end h hk', fun h => sfx_nil s k' (by omega)⟩)
    by_cases hT : ∃ r, Ty false (nums s) r
    · obtain ⟨r, hr⟩ := hT
      have HR2 : Hid (∀ W, Now w W w.heap.size s 0 0 → Calls Tryd.prog 109 #[.pointer (some ⟨w.heap.size, 0, none⟩), .int .i64 1] W fun e w' => e = .returned (.bool true) ∧ ReadD w w' w.heap.size s true) := Lib.hid (fun W hW => (HR.out W hW).mono fun e w' ⟨b, he, hb⟩ => by
        cases b with
        | true => exact ⟨he, hb⟩
        | false =>
          obtain ⟨_, _, _, _, _, _, _, hx⟩ := hb
          exact absurd hr (hx rfl r))
      clear hK HR hr
      unfold maxLen at hs
      go_enter Tryd.func93, Tryd.ntmps93
      go_upto_region 4 with fail
      go_cut [27] (fun c wc => ∃ (k' dp' : Nat) (b : Bool), c = .bool b ∧ b = (!decide (k' = s.size)) ∧ Now w wc w.heap.size s k' dp' ∧ k' ≤ s.size ∧ 1 ≤ dp' ∧ dp' ≤ 140000 ∧ Ty false (nums s) (sfx s k'))
      case first =>
        refine wp_region_any (by kernel_rfl) ?_
        change wpAny _ _ _ _ _ _ _ (World.drew _)
        refine wpAny_take (i := 0) (v := ?_) rfl (by kernel_rfl) (by kernel_rfl) (by kernel_rfl) (fun _ _ _ h => h) (Or.inl ⟨by kernel_rfl, ?_⟩) ?_
        rotate_left
        · (intro W; go_simp) <;> with_reducible rfl
        simp only [Act.put, List.setIfInBounds_toArray, List.set_cons_zero, List.set_cons_succ]
        refine wpAny_ready (rs := [1]) (by kernel_rfl) (by simp) (AllReady.cons rfl (fun K hK => ?_) AllReady.nil)
        go_simp
        refine (HR2.out _ HN.out.drew).mono ?_
        rintro e w1 ⟨rfl, h1⟩
        obtain ⟨k', dp', hn1, h2⟩ := h1
        have H2 := Lib.hid (And.intro h2.1 (And.intro h2.2.1 (And.intro h2.2.2.1 (h2.2.2.2.1 rfl))))
        clear h2
        obtain ⟨d0, d1, -, -, -, -⟩ := hn1.1.cells
        go_simp
        refine hK _ _ ?_
        clear hK K
        refine wpAny_of_held (S := fun W => W = w1) _ _ _ _ ?_
        have hS1 : w1 = w1 := rfl
        refine wpAnyH_take (i := 2) (v := ?_) rfl (by kernel_rfl) (by kernel_rfl) (by kernel_rfl) (fun _ _ _ h => h) (Or.inl ⟨by kernel_rfl, ?_⟩) (by assumption) ?_
        rotate_left
        · (intro W hW; subst hW; go_simp) <;> with_reducible rfl
        simp only [Act.put, List.setIfInBounds_toArray, List.set_cons_zero, List.set_cons_succ]
        refine wpAnyH_take (i := 3) (v := ?_) rfl (by kernel_rfl) (by kernel_rfl) (by kernel_rfl) (fun _ _ _ h => h) (Or.inl ⟨by kernel_rfl, ?_⟩) (by assumption) ?_
        rotate_left
        · (intro W hW; subst hW; go_simp) <;> with_reducible rfl
        simp only [Act.put, List.setIfInBounds_toArray, List.set_cons_zero, List.set_cons_succ]
        refine wpAnyH_take (i := 4) (v := ?_) rfl (by kernel_rfl) (by kernel_rfl) (by kernel_rfl) (fun _ _ _ h => h) (Or.inl ⟨by kernel_rfl, ?_⟩) (by assumption) ?_
        rotate_left
        · (intro W hW; subst hW; go_simp) <;> with_reducible rfl
        simp only [Act.put, List.setIfInBounds_toArray, List.set_cons_zero, List.set_cons_succ]
        refine wpAnyH_take (i := 5) (v := ?_) rfl (by kernel_rfl) (by kernel_rfl) (by kernel_rfl) (fun _ _ _ h => h) (Or.inl ⟨by kernel_rfl, ?_⟩) (by assumption) ?_
        rotate_left
        · (intro W hW; subst hW; go_simp) <;> with_reducible rfl
        simp only [Act.put, List.setIfInBounds_toArray, List.set_cons_zero, List.set_cons_succ]
        refine wpAnyH_take (i := 6) (v := ?_) rfl (by kernel_rfl) (by kernel_rfl) (by kernel_rfl) (fun _ _ _ h => h) (Or.inl ⟨by kernel_rfl, ?_⟩) (by assumption) ?_
        rotate_left
        · (intro W hW; subst hW; go_simp) <;> with_reducible rfl
        simp only [Act.put, List.setIfInBounds_toArray, List.set_cons_zero, List.set_cons_succ]
        refine wpAnyH_take (i := 7) (v := ?_) rfl (by kernel_rfl) (by kernel_rfl) (by kernel_rfl) (fun _ _ _ h => h) (Or.inl ⟨by kernel_rfl, ?_⟩) (by assumption) ?_
        rotate_left
        · (intro W hW; subst hW; go_simp) <;> with_reducible rfl
        simp only [Act.put, List.setIfInBounds_toArray, List.set_cons_zero, List.set_cons_succ]
        refine wpAnyH_take (i := 8) (v := ?_) rfl (by kernel_rfl) (by kernel_rfl) (by kernel_rfl) (fun _ _ _ h => h) (Or.inl ⟨by kernel_rfl, ?_⟩) (by assumption) ?_
        rotate_left
        · (intro W hW; subst hW; go_simp) <;> with_reducible rfl
        simp only [Act.put, List.setIfInBounds_toArray, List.set_cons_zero, List.set_cons_succ]
        refine wpAnyH_take (i := 9) (v := ?_) rfl (by kernel_rfl) (by kernel_rfl) (by kernel_rfl) (fun _ _ _ h => h) (Or.inl ⟨by kernel_rfl, ?_⟩) (by assumption) ?_
        rotate_left
        · (intro W hW; subst hW; go_simp) <;> with_reducible rfl
        simp only [Act.put, List.setIfInBounds_toArray, List.set_cons_zero, List.set_cons_succ]
        refine wpAnyH_take (i := 10) (v := ?_) rfl (by kernel_rfl) (by kernel_rfl) (by kernel_rfl) (fun _ _ _ h => h) (Or.inl ⟨by kernel_rfl, ?_⟩) (by assumption) ?_
        rotate_left
        · (intro W hW; subst hW; go_simp) <;> with_reducible rfl
        simp only [Act.put, List.setIfInBounds_toArray, List.set_cons_zero, List.set_cons_succ]
        refine wpAnyH_take (i := 11) (v := ?_) rfl (by kernel_rfl) (by kernel_rfl) (by kernel_rfl) (fun _ _ _ h => h) (Or.inl ⟨by kernel_rfl, ?_⟩) (by assumption) ?_
        rotate_left
        · (intro W hW; subst hW; go_simp) <;> with_reducible rfl
        simp only [Act.put, List.setIfInBounds_toArray, List.set_cons_zero, List.set_cons_succ]
        refine wpAnyH_take (i := 12) (v := ?_) rfl (by kernel_rfl) (by kernel_rfl) (by kernel_rfl) (fun _ _ _ h => h) (Or.inl ⟨by kernel_rfl, ?_⟩) (by assumption) ?_
        rotate_left
        · (intro W hW; subst hW; go_simp) <;> with_reducible rfl
        simp only [Act.put, List.setIfInBounds_toArray, List.set_cons_zero, List.set_cons_succ]
        refine wpAnyH_take (i := 13) (v := ?_) rfl (by kernel_rfl) (by kernel_rfl) (by kernel_rfl) (fun _ _ _ h => h) (Or.inl ⟨by kernel_rfl, ?_⟩) (by assumption) ?_
        rotate_left
        · (intro W hW; subst hW; go_simp) <;> with_reducible rfl
        simp only [Act.put, List.setIfInBounds_toArray, List.set_cons_zero, List.set_cons_succ]
        refine wpAnyH_take (i := 14) (v := ?_) rfl (by kernel_rfl) (by kernel_rfl) (by kernel_rfl) (fun _ _ _ h => h) (Or.inl ⟨by kernel_rfl, ?_⟩) (by assumption) ?_
        rotate_left
        · (intro W hW; subst hW; go_simp) <;> with_reducible rfl
        simp only [Act.put, List.setIfInBounds_toArray, List.set_cons_zero, List.set_cons_succ]
        refine wpAnyH_take (i := 15) (v := ?_) rfl (by kernel_rfl) (by kernel_rfl) (by kernel_rfl) (fun _ _ _ h => h) (Or.inl ⟨by kernel_rfl, ?_⟩) (by assumption) ?_
        rotate_left
        · (intro W hW; subst hW; go_simp) <;> with_reducible rfl
        simp only [Act.put, List.setIfInBounds_toArray, List.set_cons_zero, List.set_cons_succ]
        refine wpAnyH_take (i := 16) (v := ?_) rfl (by kernel_rfl) (by kernel_rfl) (by kernel_rfl) (fun _ _ _ h => h) (Or.inl ⟨by kernel_rfl, ?_⟩) (by assumption) ?_
        rotate_left
        · (intro W hW; subst hW; go_simp) <;> with_reducible rfl
        simp only [Act.put, List.setIfInBounds_toArray, List.set_cons_zero, List.set_cons_succ]
        refine wpAnyH_done (by kernel_rfl) ?_ _
        go_wp2_with fail
        go_meet
        case rel => exact ⟨k', dp', _, rfl, nat_ne _ _, hn1, H2.out.1, H2.out.2.1, H2.out.2.2.1, H2.out.2.2.2⟩
      case rest =>
        obtain ⟨k', dp', b, rfl, hb, hn, h1, h2, h3, h4⟩ := hcut
        obtain ⟨d0, d1, d2, -, -, -⟩ := hn.1.cells
        have Hn := Lib.hid hn
        have H4 := Lib.hid h4
        clear hn h4
        by_cases hk : k' = s.size
        · have Hk := Lib.hid hk
          obtain rfl : b = false := by simp [hb, hk]
          clear hb
          clear hk
          go_wp2_with fail
          go_ret
          exact ⟨dp', rfl, ⟨fun _ => ⟨h6, by have := H4.out; rwa [(Hend.out k' h1).2 Hk.out] at this⟩, fun _ => by omega⟩, gb_to_below Hn.out.2⟩
        · have Hk := Lib.hid hk
          obtain rfl : b = true := by simp [hb, hk]
          clear hb
          clear hk
          go_wp2_with fail
          go_ret
          exact ⟨0, rfl, ⟨fun h => absurd h (Nat.lt_irrefl _), fun h => absurd ((Hend.out k' h1).1 (H4.out.unique _ h.2)) Hk.out⟩, gb_to_below Hn.out.2⟩
    · have HR2 : Hid (∀ W, Now w W w.heap.size s 0 0 → Calls Tryd.prog 109 #[.pointer (some ⟨w.heap.size, 0, none⟩), .int .i64 1] W fun e w' => e = .returned (.bool false) ∧ ReadD w w' w.heap.size s false) := Lib.hid (fun W hW => (HR.out W hW).mono fun e w' ⟨b, he, hb⟩ => by
        cases b with
        | false => exact ⟨he, hb⟩
        | true =>
          obtain ⟨_, _, _, _, _, _, hx, _⟩ := hb
          exact absurd ⟨_, hx rfl⟩ hT)
      have Hno : Hid (¬ Ty false (nums s) []) := Lib.hid (fun h => hT ⟨_, h⟩)
      clear hK HR hT
      unfold maxLen at hs
      go_enter Tryd.func93, Tryd.ntmps93
      go_upto_region 4 with fail
      go_cut [27] (fun c wc => ∃ (k' dp' : Nat), c = .bool true ∧ Now w wc w.heap.size s k' dp')
      case first =>
        refine wp_region_any (by kernel_rfl) ?_
        change wpAny _ _ _ _ _ _ _ (World.drew _)
        refine wpAny_take (i := 0) (v := ?_) rfl (by kernel_rfl) (by kernel_rfl) (by kernel_rfl) (fun _ _ _ h => h) (Or.inl ⟨by kernel_rfl, ?_⟩) ?_
        rotate_left
        · (intro W; go_simp) <;> with_reducible rfl
        simp only [Act.put, List.setIfInBounds_toArray, List.set_cons_zero, List.set_cons_succ]
        refine wpAny_ready (rs := [1]) (by kernel_rfl) (by simp) (AllReady.cons rfl (fun K hK => ?_) AllReady.nil)
        go_simp
        refine (HR2.out _ HN.out.drew).mono ?_
        rintro e w1 ⟨rfl, h1⟩
        obtain ⟨k', dp', hn1, h2⟩ := h1
        have H2 := Lib.hid h2
        clear h2
        go_simp
        refine hK _ _ ?_
        clear hK K
        refine wpAny_take (i := 2) (v := ?_) rfl (by kernel_rfl) (by kernel_rfl) (by kernel_rfl) (fun _ _ _ h => h) (Or.inl ⟨by kernel_rfl, ?_⟩) ?_
        rotate_left
        · (intro W; go_simp) <;> with_reducible rfl
        simp only [Act.put, List.setIfInBounds_toArray, List.set_cons_zero, List.set_cons_succ]
        refine wpAny_take (i := 3) (v := ?_) rfl (by kernel_rfl) (by kernel_rfl) (by kernel_rfl) (fun _ _ _ h => h) (Or.inl ⟨by kernel_rfl, ?_⟩) ?_
        rotate_left
        · (intro W; go_simp) <;> with_reducible rfl
        simp only [Act.put, List.setIfInBounds_toArray, List.set_cons_zero, List.set_cons_succ]
        refine wpAny_take (i := 4) (v := undef) rfl (by kernel_rfl) (by kernel_rfl) (by kernel_rfl) (fun _ _ _ h => h) (Or.inr ⟨by kernel_rfl, rfl⟩) ?_
        simp only [Act.put, List.setIfInBounds_toArray, List.set_cons_zero, List.set_cons_succ]
        refine wpAny_take (i := 5) (v := undef) rfl (by kernel_rfl) (by kernel_rfl) (by kernel_rfl) (fun _ _ _ h => h) (Or.inr ⟨by kernel_rfl, rfl⟩) ?_
        simp only [Act.put, List.setIfInBounds_toArray, List.set_cons_zero, List.set_cons_succ]
        refine wpAny_take (i := 6) (v := undef) rfl (by kernel_rfl) (by kernel_rfl) (by kernel_rfl) (fun _ _ _ h => h) (Or.inr ⟨by kernel_rfl, rfl⟩) ?_
        simp only [Act.put, List.setIfInBounds_toArray, List.set_cons_zero, List.set_cons_succ]
        refine wpAny_take (i := 7) (v := undef) rfl (by kernel_rfl) (by kernel_rfl) (by kernel_rfl) (fun _ _ _ h => h) (Or.inr ⟨by kernel_rfl, rfl⟩) ?_
        simp only [Act.put, List.setIfInBounds_toArray, List.set_cons_zero, List.set_cons_succ]
        refine wpAny_take (i := 8) (v := undef) rfl (by kernel_rfl) (by kernel_rfl) (by kernel_rfl) (fun _ _ _ h => h) (Or.inr ⟨by kernel_rfl, rfl⟩) ?_
        simp only [Act.put, List.setIfInBounds_toArray, List.set_cons_zero, List.set_cons_succ]
        refine wpAny_take (i := 9) (v := undef) rfl (by kernel_rfl) (by kernel_rfl) (by kernel_rfl) (fun _ _ _ h => h) (Or.inr ⟨by kernel_rfl, rfl⟩) ?_
        simp only [Act.put, List.setIfInBounds_toArray, List.set_cons_zero, List.set_cons_succ]
        refine wpAny_take (i := 10) (v := undef) rfl (by kernel_rfl) (by kernel_rfl) (by kernel_rfl) (fun _ _ _ h => h) (Or.inr ⟨by kernel_rfl, rfl⟩) ?_
        simp only [Act.put, List.setIfInBounds_toArray, List.set_cons_zero, List.set_cons_succ]
        refine wpAny_take (i := 11) (v := undef) rfl (by kernel_rfl) (by kernel_rfl) (by kernel_rfl) (fun _ _ _ h => h) (Or.inr ⟨by kernel_rfl, rfl⟩) ?_
        simp only [Act.put, List.setIfInBounds_toArray, List.set_cons_zero, List.set_cons_succ]
        refine wpAny_take (i := 12) (v := undef) rfl (by kernel_rfl) (by kernel_rfl) (by kernel_rfl) (fun _ _ _ h => h) (Or.inr ⟨by kernel_rfl, rfl⟩) ?_
        simp only [Act.put, List.setIfInBounds_toArray, List.set_cons_zero, List.set_cons_succ]
        refine wpAny_take (i := 13) (v := undef) rfl (by kernel_rfl) (by kernel_rfl) (by kernel_rfl) (fun _ _ _ h => h) (Or.inr ⟨by kernel_rfl, rfl⟩) ?_
        simp only [Act.put, List.setIfInBounds_toArray, List.set_cons_zero, List.set_cons_succ]
        refine wpAny_take (i := 14) (v := undef) rfl (by kernel_rfl) (by kernel_rfl) (by kernel_rfl) (fun _ _ _ h => h) (Or.inr ⟨by kernel_rfl, rfl⟩) ?_
        simp only [Act.put, List.setIfInBounds_toArray, List.set_cons_zero, List.set_cons_succ]
        refine wpAny_take (i := 15) (v := undef) rfl (by kernel_rfl) (by kernel_rfl) (by kernel_rfl) (fun _ _ _ h => h) (Or.inr ⟨by kernel_rfl, rfl⟩) ?_
        simp only [Act.put, List.setIfInBounds_toArray, List.set_cons_zero, List.set_cons_succ]
        refine wpAny_take (i := 16) (v := ?_) rfl (by kernel_rfl) (by kernel_rfl) (by kernel_rfl) (fun _ _ _ h => h) (Or.inl ⟨by kernel_rfl, ?_⟩) ?_
        rotate_left
        · (intro W; go_simp) <;> with_reducible rfl
        simp only [Act.put, List.setIfInBounds_toArray, List.set_cons_zero, List.set_cons_succ]
        refine wpAny_done (by kernel_rfl) ?_ _
        go_wp2_with fail
        go_meet
        case rel => exact ⟨k', dp', rfl, hn1⟩
      case rest =>
        obtain ⟨k', dp', rfl, hn⟩ := hcut
        have Hn := Lib.hid hn
        clear hn
        go_wp2_with fail
        go_ret
        exact ⟨0, rfl, ⟨fun h => absurd h (Nat.lt_irrefl _), fun h => absurd h.2 Hno.out⟩, gb_to_below Hn.out.2⟩
  · have hno : ¬ s.size ≤ 65536 := h6
    clear hK
    go_enter Tryd.func93, Tryd.ntmps93
    go_wp2_with fail
    go_ret
    exact ⟨0, rfl, ⟨fun h => absurd h (Nat.lt_irrefl _), fun h => absurd h.1 (by omega)⟩, Below.refl _ _⟩
end Go.Proofs.YtejhphnlickjlaaDoor.ty
namespace Go.Proofs.YtejhphnlickjlaaDoor.ty
open Go.ChangeShapes Go.WideShapes Go.RowKit
open M T
set_option linter.unusedVariables false
theorem toList_one (s : ByteArray) (c : UInt8) (n : Int) (hn : n = (c.toNat : Int)) : (s.toList == [c]) = decide (nums s = [n]) := by
  subst hn
  have h : s.toList = s.data.toList := by rw [ByteArray.toList_eq]
  rw [h]
  unfold nums
  by_cases e : s.data.toList = [c]
  · rw [e]; simp
  · have : ¬ List.map (fun b : UInt8 => (b.toNat : Int)) s.data.toList = [(c.toNat : Int)] := by
      intro hh
      apply e
      have hlen := congrArg List.length hh
      simp only [List.length_map, List.length_cons, List.length_nil] at hlen
      obtain ⟨d, hd⟩ := List.length_eq_one_iff.mp hlen
      rw [hd] at hh ⊢
      simp only [List.map_cons, List.map_nil, List.cons.injEq, and_true] at hh
      rw [UInt8.toNat_inj.mp (by omega : d.toNat = c.toNat)]
    simp [e, this]
theorem form_nums {s : ByteArray} : formT (nums s) = true ↔ s.size ≤ 65536 ∧ Ty false (nums s) [] := by
  unfold formT
  rw [nums_length]
  exact @decide_eq_true_iff _ (_)
theorem Form_any (s : ByteArray) (w : World) (hK : KeysIn w) (hs : s.size ≤ maxLen) : Calls Tryd.prog 86 #[.string s] w fun e w' => e = .returned (.bool (formT (nums s))) ∧ Below w.heap.size w w' := by
  have HD : Hid (∀ W, Below w.heap.size w W → W.heap.size = w.heap.size → Calls Tryd.prog 93 #[.string s] W fun e w' => ∃ n : Nat, e = .returned (.int .i64 n) ∧ (0 < n ↔ formT (nums s) = true) ∧ Below w.heap.size w w') := Lib.hid (fun W hW he => (depth_any s W (hK.below hW) hs).mono fun e w' ⟨n, h1, h2, h3⟩ => ⟨n, h1, h2.trans form_nums.symm, hW.trans (h3.mono (by omega))⟩)
  generalize formT (nums s) = b at HD ⊢
  clear hK
  unfold maxLen at hs
  go_enter Tryd.func86, Tryd.ntmps86
  go_wp2_with (first
    | (go_at_call 93; refine (HD.out _ (Below.refl _ _) rfl).mono ?_; rintro e w1 ⟨n, rfl, h1, h2⟩; have H1 := Lib.hid h1; have H2 := Lib.hid h2; clear h1 h2))
  go_ret
  refine ⟨?_, H2.out⟩
  have h1 := H1.out
  cases b <;> simp_all
theorem IsInt_any (s : ByteArray) (w : World) : Calls Tryd.prog 62 #[.string s] w fun e w' => e = .returned (.bool (decide (bitsT (nums s) ≠ 0))) ∧ w' = w := by
  have a1 := toList_one s 99 99 rfl
  have a2 := toList_one s 115 115 rfl
  have a3 := toList_one s 105 105 rfl
  have a4 := toList_one s 117 117 rfl
  by_cases h1 : nums s = [99]
  · rw [show decide (bitsT (nums s) ≠ 0) = true from by rw [h1]; rfl]
    rw [decide_eq_true h1] at a1
    clear a2 a3 a4 h1
    go_enter Tryd.func62, Tryd.ntmps62
    go_wp2_with fail
    go_ret
    exact ⟨rfl, rfl⟩
  · rw [decide_eq_false h1] at a1
    by_cases h2 : nums s = [115]
    · rw [show decide (bitsT (nums s) ≠ 0) = true from by rw [h2]; rfl]
      rw [decide_eq_true h2] at a2
      clear a3 a4 h1 h2
      go_enter Tryd.func62, Tryd.ntmps62
      go_wp2_with fail
      go_ret
      exact ⟨rfl, rfl⟩
    · rw [decide_eq_false h2] at a2
      by_cases h3 : nums s = [105]
      · rw [show decide (bitsT (nums s) ≠ 0) = true from by rw [h3]; rfl]
        rw [decide_eq_true h3] at a3
        clear a4 h1 h2 h3
        go_enter Tryd.func62, Tryd.ntmps62
        go_wp2_with fail
        go_ret
        exact ⟨rfl, rfl⟩
      · rw [decide_eq_false h3] at a3
        by_cases h4 : nums s = [117]
        · rw [show decide (bitsT (nums s) ≠ 0) = true from by rw [h4]; rfl]
          rw [decide_eq_true h4] at a4
          clear h1 h2 h3 h4
          go_enter Tryd.func62, Tryd.ntmps62
          go_wp2_with fail
          go_ret
          exact ⟨rfl, rfl⟩
        · rw [show decide (bitsT (nums s) ≠ 0) = false from by simp [bitsT, h1, h2, h3, h4]]
          rw [decide_eq_false h4] at a4
          clear h1 h2 h3 h4
          go_enter Tryd.func62, Tryd.ntmps62
          go_wp2_with fail
          go_ret
          exact ⟨rfl, rfl⟩
theorem IsScalar_any (s : ByteArray) (w : World) (hK : KeysIn w) (hs : s.size ≤ maxLen) : Calls Tryd.prog 73 #[.string s] w fun e w' => e = .returned (.bool (decide (bitsT (nums s) ≠ 0) || ptrT (nums s))) ∧ Below w.heap.size w w' := by
  have HI := Lib.hid (IsInt_any s w)
  have HF := Lib.hid (Form_any s w hK hs)
  unfold maxLen at hs
  clear hK
  by_cases h1 : bitsT (nums s) = 0
  · rw [decide_eq_false (fun h => h h1)] at HI ⊢
    rw [Bool.false_or]
    clear h1
    by_cases h2 : 0 < s.size
    · have g0 := nums_get s 0 h2
      have hh : (nums s).head? = (nums s)[0]? := by rw [List.head?_eq_getElem?]
      by_cases h3 : s[0].toNat = 112
      · have h4 : s[0] = 112 := UInt8.toNat_inj.mp h3
        have hp : ptrT (nums s) = formT (nums s) := by
          unfold ptrT
          rw [decide_eq_true (by rw [hh, g0, h3]; rfl), Bool.true_and]
        rw [hp]
        clear hp hh g0
        generalize formT (nums s) = b at HF ⊢
        go_enter Tryd.func73, Tryd.ntmps73
        go_wp2_with (first
          | (go_at_call 62; refine HI.out.mono ?_; rintro e w1 ⟨rfl, rfl⟩)
          | (go_at_call 86; refine HF.out.mono ?_; rintro e w2 ⟨rfl, hb2⟩))
        go_ret
        exact ⟨rfl, hb2⟩
      · have hp : ptrT (nums s) = false := by
          unfold ptrT
          rw [decide_eq_false (by rw [hh, g0]; simp; omega), Bool.false_and]
        rw [hp]
        clear hp hh g0 HF
        go_enter Tryd.func73, Tryd.ntmps73
        go_wp2_with (go_at_call 62; refine HI.out.mono ?_; rintro e w1 ⟨rfl, rfl⟩)
        go_ret
        exact ⟨rfl, Below.refl _ _⟩
    · have hp : ptrT (nums s) = false := by
        have : nums s = [] := List.eq_nil_of_length_eq_zero (by rw [nums_length]; omega)
        unfold ptrT
        rw [this]; rfl
      rw [hp]
      clear hp HF
      go_enter Tryd.func73, Tryd.ntmps73
      go_wp2_with (go_at_call 62; refine HI.out.mono ?_; rintro e w1 ⟨rfl, rfl⟩)
      go_ret
      exact ⟨rfl, Below.refl _ _⟩
  · rw [decide_eq_true h1] at HI ⊢
    clear h1 HF
    go_enter Tryd.func73, Tryd.ntmps73
    go_wp2_with (go_at_call 62; refine HI.out.mono ?_; rintro e w1 ⟨rfl, rfl⟩)
    go_ret
    exact ⟨rfl, Below.refl _ _⟩
end Go.Proofs.YtejhphnlickjlaaDoor.ty
