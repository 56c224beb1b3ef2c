/-
  Contract of Give (reference): giveA, whatever the list. No condition but that a list is as long as a list can be.
-/
import Derived.Test.YtinjfmcmjhehoaaGapJ
namespace Go.Proofs.Ytinjfmcmjhehoaa.gaps
open Go.ChangeShapes Go.WideShapes Go.ChangeAt Go.RowKit
open M G
set_option linter.unusedVariables false
set_option maxRecDepth 100000 in
set_option maxHeartbeats 800000 in
theorem rGive_any (t : Int) (A : Option Addr) (n c : Nat) (l : List Gap) (f s : Int) (w : World) (hl : l.length = n) (hn : n ≤ maxLen) (hc : n ≤ c) (hcm : c ≤ maxLen) (hA : Rd w w.heap.size A (cells l)) :
    Calls Try.prog 48 #[.int .i64 t, .slice A n c, .agg #[.int .i64 f, .int .i64 s]] w (GiveS w (giveA t l (f, s)).1 (giveA t l (f, s)).2) := by
  have HC : Hid (∀ W : World, Below w.heap.size w W → Calls Try.prog 40 #[.int .i64 t, .slice A n c] W fun e w' => e = .returned (.int .i64 (checkE t l)) ∧ Below W.heap.size W w') :=
    Lib.hid (fun W hb => rcheck_any t A n c l W hl hn ((hA.below hb).more hb.size))
  by_cases hce : checkE t l = 0
  · rw [hce] at HC
    obtain ⟨ht, hlen, hchk⟩ := checkE_zero hce
    obtain ⟨t0, t1, t2⟩ := okTotal_bd ht
    by_cases hs : s < 1 ∨ 16777216 < s
    · rw [show giveA t l (f, s) = ([], 1) from by
        unfold giveA; rw [if_neg (by simp [hce]), if_neg (by simp [sizeOk]; omega)]]
      clear hce hA hchk ht hl
      rcases hs with hs | hs
      · go_enter Try.func48, Try.ntmps48
        go_wp2_with (go_at_call 40; refine (HC.out _ ((Below.refl _ _).alloc (Nat.le_refl _) _)).mono ?_; rintro e w1 ⟨rfl, hb1⟩; have c1 : w1.cell? ⟨w.heap.size, 1, none⟩ = some (.int .i64 s) := cv hb1 (cn w #[.int .i64 f, .int .i64 s] 47 1) (by simp))
        go_ret2
        exact nil_give _ _ _ (((Below.refl _ _).alloc (Nat.le_refl _) _).trans (hb1.mono (by simp)))
      · go_enter Try.func48, Try.ntmps48
        go_wp2_with (go_at_call 40; refine (HC.out _ ((Below.refl _ _).alloc (Nat.le_refl _) _)).mono ?_; rintro e w1 ⟨rfl, hb1⟩; have c1 : w1.cell? ⟨w.heap.size, 1, none⟩ = some (.int .i64 s) := cv hb1 (cn w #[.int .i64 f, .int .i64 s] 47 1) (by simp))
        go_ret2
        exact nil_give _ _ _ (((Below.refl _ _).alloc (Nat.le_refl _) _).trans (hb1.mono (by simp)))
    · have hs1 : 1 ≤ s := by omega
      have hs2 : s ≤ 16777216 := by omega
      obtain ⟨u1, u2, u3, -⟩ := up_bd s hs1 hs2
      have HS := Lib.hid (fun W => rounded_any s W hs1 hs2)
      have hG : giveA t l (f, s) = if grainB t (f, up s) && !l.any (meets (f, up s)) then (giveL l (f, up s), 0) else ([], 160) := by
        unfold giveA; rw [if_neg (by simp [hce]), if_pos (by simp [sizeOk]; omega)]
      rw [hG]
      clear hG
      have HB : ∀ g ∈ l, 0 ≤ g.1 ∧ g.1 ≤ 16777216 ∧ 0 ≤ g.2 ∧ g.2 ≤ 16777216 := fun g hgl => by
        have := grain_bd (chk_bounds hchk g hgl)
        omega
      have hfold := folded_eq l (f, up s) (-1) hchk
      generalize hm : up s = m at *
      clear hm
      by_cases g1 : 0 ≤ f
      · by_cases g2 : f % 16 = 0
        · by_cases g3 : f ≤ t - m
          · have hg : grainB t (f, m) = true := by simp [grainB]; omega
            have hcore := rGive_core t A n c l f s m w hl (by omega) hc hcm hA HC hs1 hs2 HS t0 t1 g1 g2 (by omega) u2 g3 HB
            rw [hfold] at hcore
            rw [hg]
            cases ha : l.any (meets (f, m))
            · rw [ha] at hcore; exact hcore
            · rw [ha] at hcore; exact hcore
          · have b2 : (f % 16 != 0) = false := by simp [g2]
            rw [if_neg (by rw [show grainB t (f, m) = false from by simp [grainB]; omega]; simp)]
            clear hce hA hchk ht hl HB hfold t2 u3
            clear g2
            go_enter Try.func48, Try.ntmps48
            go_wp2_with (first
                      | (go_at_call 40; refine (HC.out _ ((Below.refl _ _).alloc (Nat.le_refl _) _)).mono ?_; rintro e w1 ⟨rfl, hb1⟩; have hs1 := hb1.size; simp at hs1; have c0 : w1.cell? ⟨w.heap.size, 0, none⟩ = some (.int .i64 f) := cv hb1 (cn w #[.int .i64 f, .int .i64 s] 47 0) (by simp); have c1 : w1.cell? ⟨w.heap.size, 1, none⟩ = some (.int .i64 s) := cv hb1 (cn w #[.int .i64 f, .int .i64 s] 47 1) (by simp); have fr1 : w1.frozen? ⟨w.heap.size, 1, none⟩ = false := (hb1.frozen (p := ⟨w.heap.size, 1, none⟩) (by simp)).trans (fn w _ _ _))
                      | (go_at_call 58; refine (HS.out _).mono ?_; rintro e w2 ⟨rfl, rfl⟩))
            go_ret2
            exact nil_give _ _ _ ((((Below.refl _ _).alloc (Nat.le_refl _) _).trans (hb1.mono (by simp))).setCell (p := ⟨w.heap.size, 1, none⟩) (Nat.le_refl _) _)
        · have b2 : (f % 16 != 0) = true := by simp [g2]
          rw [if_neg (by rw [show grainB t (f, m) = false from by simp [grainB]; omega]; simp)]
          clear hce hA hchk ht hl HB hfold t2 u3
          clear g2
          go_enter Try.func48, Try.ntmps48
          go_wp2_with (first
                    | (go_at_call 40; refine (HC.out _ ((Below.refl _ _).alloc (Nat.le_refl _) _)).mono ?_; rintro e w1 ⟨rfl, hb1⟩; have hs1 := hb1.size; simp at hs1; have c0 : w1.cell? ⟨w.heap.size, 0, none⟩ = some (.int .i64 f) := cv hb1 (cn w #[.int .i64 f, .int .i64 s] 47 0) (by simp); have c1 : w1.cell? ⟨w.heap.size, 1, none⟩ = some (.int .i64 s) := cv hb1 (cn w #[.int .i64 f, .int .i64 s] 47 1) (by simp); have fr1 : w1.frozen? ⟨w.heap.size, 1, none⟩ = false := (hb1.frozen (p := ⟨w.heap.size, 1, none⟩) (by simp)).trans (fn w _ _ _))
                    | (go_at_call 58; refine (HS.out _).mono ?_; rintro e w2 ⟨rfl, rfl⟩))
          go_ret2
          exact nil_give _ _ _ ((((Below.refl _ _).alloc (Nat.le_refl _) _).trans (hb1.mono (by simp))).setCell (p := ⟨w.heap.size, 1, none⟩) (Nat.le_refl _) _)
      · rw [if_neg (by rw [show grainB t (f, m) = false from by simp [grainB]; omega]; simp)]
        clear hce hA hchk ht hl HB hfold t2 u3
        skip
        go_enter Try.func48, Try.ntmps48
        go_wp2_with (first
                  | (go_at_call 40; refine (HC.out _ ((Below.refl _ _).alloc (Nat.le_refl _) _)).mono ?_; rintro e w1 ⟨rfl, hb1⟩; have hs1 := hb1.size; simp at hs1; have c0 : w1.cell? ⟨w.heap.size, 0, none⟩ = some (.int .i64 f) := cv hb1 (cn w #[.int .i64 f, .int .i64 s] 47 0) (by simp); have c1 : w1.cell? ⟨w.heap.size, 1, none⟩ = some (.int .i64 s) := cv hb1 (cn w #[.int .i64 f, .int .i64 s] 47 1) (by simp); have fr1 : w1.frozen? ⟨w.heap.size, 1, none⟩ = false := (hb1.frozen (p := ⟨w.heap.size, 1, none⟩) (by simp)).trans (fn w _ _ _))
                  | (go_at_call 58; refine (HS.out _).mono ?_; rintro e w2 ⟨rfl, rfl⟩))
        go_ret2
        exact nil_give _ _ _ ((((Below.refl _ _).alloc (Nat.le_refl _) _).trans (hb1.mono (by simp))).setCell (p := ⟨w.heap.size, 1, none⟩) (Nat.le_refl _) _)
  · rw [show giveA t l (f, s) = ([], checkE t l) from by unfold giveA; rw [if_pos (by simpa using hce)]]
    have hb : (checkE t l != 0) = true := by simp [hce]
    generalize checkE t l = ce at *
    clear hce hA hl
    go_enter Try.func48, Try.ntmps48
    go_wp2_with (go_at_call 40; refine (HC.out _ ((Below.refl _ _).alloc (Nat.le_refl _) _)).mono ?_; rintro e w1 ⟨rfl, hb1⟩)
    go_ret2
    exact nil_give _ _ _ (((Below.refl _ _).alloc (Nat.le_refl _) _).trans (hb1.mono (by simp)))
end Go.Proofs.Ytinjfmcmjhehoaa.gaps
