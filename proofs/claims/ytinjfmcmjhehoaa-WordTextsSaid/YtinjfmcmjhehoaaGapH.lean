/-
  Contract of Give (package gap): giveA, whatever the list. No condition but that a list is as long as a list can be.
-/
import Derived.Test.YtinjfmcmjhehoaaGapG
namespace Go.Proofs.Ytinjfmcmjhehoaa.gaps
open Go.ChangeShapes Go.WideShapes Go.ChangeAt Go.RowKit
open M G
set_option linter.unusedVariables false
def GiveS (w : World) (r : List Gap) (er : Int) (e : Ending) (w' : World) : Prop :=
  ∃ A c, e = .returned (.tuple #[.slice A r.length c, .int .i64 er]) ∧ r.length ≤ c ∧ c ≤ maxLen ∧ w'.ownsRow w.heap.size 47 2 (.slice A r.length c) r.length (cells r) ∧ Below w.heap.size w w'
theorem nil_give (w w' : World) (er : Int) (hb : Below w.heap.size w w') : GiveS w [] er (.returned (.tuple #[.slice none 0 0, .int .i64 er])) w' :=
  ⟨_, _, rfl, Nat.le_refl _, by simp [maxLen], World.ownsRow_nil _ _ _ _, hb⟩
theorem close_meet (b : Nat) (f s x1 x2 : Int) (w : World) (hb : b < w.heap.size) (hc : w.cell? ⟨b, 0, none⟩ = some (.int .i64 f)) (hc2 : w.cell? ⟨b, 1, none⟩ = some (.int .i64 s))
    (f0 : 0 ≤ f) (f1 : f ≤ 16777216) (s0 : 0 ≤ s) (s1 : s ≤ 16777216) (b1 : 0 ≤ x1) (b2 : x1 ≤ 16777216) (b3 : 0 ≤ x2) (b4 : x2 ≤ 16777216) :
    Calls Try.prog 65 #[.agg #[.int .i64 x1, .int .i64 x2], .pointer (some ⟨b, 0, none⟩)] w fun e w' => e = .returned (.bool (meets (f, s) (x1, x2))) ∧ Below w.heap.size w w' := by
  by_cases c1 : x1 < f + s
  · by_cases c2 : f < x1 + x2
    · rw [show meets (f, s) (x1, x2) = true from by simp [meets]; omega]
      go_enter Try.func65, Try.ntmps65
      go_wp2
      go_ret
      exact ⟨rfl, (Below.refl _ _).alloc (Nat.le_refl _) _⟩
    · rw [show meets (f, s) (x1, x2) = false from by simp [meets]; omega]
      go_enter Try.func65, Try.ntmps65
      go_wp2
      go_ret
      exact ⟨rfl, (Below.refl _ _).alloc (Nat.le_refl _) _⟩
  · rw [show meets (f, s) (x1, x2) = false from by simp [meets]; omega]
    go_enter Try.func65, Try.ntmps65
    go_wp2
    go_ret
    exact ⟨rfl, (Below.refl _ _).alloc (Nat.le_refl _) _⟩
theorem any_find (l : List Gap) (p : Gap → Bool) : l.any p = decide (l.findIdx p < l.length) := by
  rw [Bool.eq_iff_iff, List.any_eq_true, decide_eq_true_eq, List.findIdx_lt_length]
theorem contains_65 (cap : Value) (p : Gap → Bool) (A : Option Addr) (n c : Nat) (l : List Gap) (w : World) (hl : l.length = n) (hn : n ≤ maxLen) (hA : Rd w w.heap.size A (cells l))
    (hF : ∀ (W : World) (x1 x2 : Int), Below w.heap.size w W → (x1, x2) ∈ l → Calls Try.prog 65 #[.agg #[.int .i64 x1, .int .i64 x2], cap] W fun e w' => e = .returned (.bool (p (x1, x2))) ∧ Below W.heap.size W w') :
    Calls Try.prog 64 #[.slice A n c, .func (.func 65) #[] #[cap]] w fun e w' => e = .returned (.bool (l.any p)) ∧ Below w.heap.size w w' := by
  have HI := Lib.hid (index_65 cap p A n c l w hl hn hA hF)
  rw [any_find, hl]
  by_cases h : l.findIdx p < n
  · rw [if_pos h] at HI
    rw [show decide (l.findIdx p < n) = true from by simp [h]]
    clear hl hn hA hF
    generalize l.findIdx p = k at *
    clear h
    go_enter Try.func64, Try.ntmps64
    go_wp2_with (go_at_call 68; refine HI.out.mono ?_; rintro e w1 ⟨rfl, hb1⟩)
    go_ret
    exact ⟨rfl, hb1⟩
  · rw [if_neg h] at HI
    rw [show decide (l.findIdx p < n) = false from by simp [h]]
    clear hl hn hA hF h
    go_enter Try.func64, Try.ntmps64
    go_wp2_with (go_at_call 68; refine HI.out.mono ?_; rintro e w1 ⟨rfl, hb1⟩)
    go_ret
    exact ⟨rfl, hb1⟩
theorem fn (W : World) (cs : Array Value) (t : TypeId) (j : Nat) : (W.alloc (.cells cs t)).frozen? ⟨W.heap.size, j, none⟩ = false := frozen_of_row _ _ _ _ _ (heap_alloc_new W _)
set_option maxRecDepth 100000 in
set_option maxHeartbeats 800000 in
theorem Give_any (t : Int) (A : Option Addr) (n c : Nat) (l : List Gap) (f s : Int) (w : World) (hl : l.length = n) (hn : n ≤ maxLen) (hc : n ≤ c) (hcm : c ≤ maxLen) (hA : Rd w w.heap.size A (cells l)) :
    Calls Try.prog 47 #[.int .i64 t, .slice A n c, .agg #[.int .i64 f, .int .i64 s]] w (GiveS w (giveA t l (f, s)).1 (giveA t l (f, s)).2) := by
  have HC : Hid (∀ W : World, Below w.heap.size w W → Calls Try.prog 39 #[.int .i64 t, .slice A n c] W fun e w' => e = .returned (.int .i64 (checkE t l)) ∧ Below W.heap.size W w') :=
    Lib.hid (fun W hb => check_any t A n c l W hl hn ((hA.below hb).more hb.size))
  by_cases hce : checkE t l = 0
  · rw [hce] at HC
    obtain ⟨ht, hlen, hchk⟩ := checkE_zero hce
    obtain ⟨t0, t1, -⟩ := okTotal_bd ht
    by_cases hs : s < 1 ∨ 16777216 < s
    · rw [show giveA t l (f, s) = ([], 1) from by
        unfold giveA; rw [if_neg (by simp [hce]), if_neg (by simp [sizeOk]; omega)]]
      have HS := Lib.hid (fun W => size_no s W hs)
      clear hce hs hA hchk ht hl
      go_enter Try.func47, Try.ntmps47
      go_wp2_with (first
        | (go_at_call 39; refine (HC.out _ ((Below.refl _ _).alloc (Nat.le_refl _) _)).mono ?_; rintro e w1 ⟨rfl, hb1⟩; have c1 : w1.cell? ⟨w.heap.size, 1, none⟩ = some (.int .i64 s) := cv hb1 (cn w #[.int .i64 f, .int .i64 s] 47 1) (by simp))
        | (go_at_call 56; refine (HS.out _).mono ?_; rintro e w2 ⟨rfl, rfl⟩))
      go_ret2
      exact nil_give _ _ _ (((Below.refl _ _).alloc (Nat.le_refl _) _).trans (hb1.mono (by simp)))
    · have hs1 : 1 ≤ s := by omega
      have hs2 : s ≤ 16777216 := by omega
      obtain ⟨u1, u2, u3, -⟩ := up_bd s hs1 hs2
      have HS := Lib.hid (fun W => size_yes s W hs1 hs2)
      have hG : giveA t l (f, s) = if grainB t (f, up s) && !l.any (meets (f, up s)) then (giveL l (f, up s), 0) else ([], 160) := by
        unfold giveA; rw [if_neg (by simp [hce]), if_pos (by simp [sizeOk]; omega)]
      rw [hG]
      clear hG
      by_cases hg : grainB t (f, up s) = true
      · obtain ⟨g1, g2, g3, g4, -, -⟩ := grain_bd hg
        simp only at g1 g2 g3 g4
        have HGr : Hid (∀ W : World, Calls Try.prog 55 #[.int .i64 t, .agg #[.int .i64 f, .int .i64 (up s)]] W fun e w' => e = .returned (.bool true) ∧ Below W.heap.size W w') := Lib.hid (fun W => by rw [← hg]; exact grain_any t f (up s) W t0 t1)
        have HB : ∀ g ∈ l, 0 ≤ g.1 ∧ g.1 ≤ 16777216 ∧ 0 ≤ g.2 ∧ g.2 ≤ 16777216 := fun g hgl => by
          have := grain_bd (chk_bounds hchk g hgl)
          omega
        have HCt : Hid (∀ W : World, Below w.heap.size w W → w.heap.size < W.heap.size → W.cell? ⟨w.heap.size, 0, none⟩ = some (.int .i64 f) → W.cell? ⟨w.heap.size, 1, none⟩ = some (.int .i64 (up s)) →
            Calls Try.prog 64 #[.slice A n c, .func (.func 65) #[] #[.pointer (some ⟨w.heap.size, 0, none⟩)]] W fun e w' => e = .returned (.bool (l.any (meets (f, up s)))) ∧ Below W.heap.size W w') := Lib.hid (fun W hb hlt q1 q2 =>
          contains_65 _ _ A n c l W hl hn ((hA.below hb).more hb.size) (fun W' x1 x2 hb' hm => by
            obtain ⟨z1, z2, z3, z4⟩ := HB _ hm
            exact close_meet w.heap.size f (up s) x1 x2 W' (by have := hb'.size; omega) (cv hb' q1 hlt) (cv hb' q2 hlt) g1 (by omega) (by omega) u2 z1 z2 z3 z4))
        by_cases ha : l.any (meets (f, up s)) = true
        · rw [if_neg (by rw [hg, ha]; simp)]
          rw [ha] at HCt
          clear hce hs hA hchk ht hl hg ha HB
          generalize up s = m at *
          go_enter Try.func47, Try.ntmps47
          go_wp2_with (first
            | (go_at_call 39; refine (HC.out _ ((Below.refl _ _).alloc (Nat.le_refl _) _)).mono ?_; rintro e w1 ⟨rfl, hb1⟩; have hs1 := hb1.size; simp at hs1; have c0 : w1.cell? ⟨w.heap.size, 0, none⟩ = some (.int .i64 f) := cv hb1 (cn w #[.int .i64 f, .int .i64 s] 47 0) (by simp); have c1 : w1.cell? ⟨w.heap.size, 1, none⟩ = some (.int .i64 s) := cv hb1 (cn w #[.int .i64 f, .int .i64 s] 47 1) (by simp); have fr1 : w1.frozen? ⟨w.heap.size, 1, none⟩ = false := (hb1.frozen (p := ⟨w.heap.size, 1, none⟩) (by simp)).trans (fn w _ _ _))
            | (go_at_call 56; refine (HS.out _).mono ?_; rintro e w2 ⟨rfl, rfl⟩))
          have bwA : Below w.heap.size w w1 := ((Below.refl _ _).alloc (Nat.le_refl _) _).trans (hb1.mono (by simp))
          have bwB : Below w.heap.size w (w1.setCell ⟨w.heap.size, 1, none⟩ (.int .i64 m)) := bwA.setCell (p := ⟨w.heap.size, 1, none⟩) (Nat.le_refl _) _
          refine (HGr.out _).mono ?_
          rintro e w3 ⟨rfl, hb3⟩
          have hs3 := hb3.size
          simp [World.setCell] at hs3
          have k0 : w3.cell? ⟨w.heap.size, 0, none⟩ = some (.int .i64 f) := cv hb3 (by go_simp) (by simp [World.setCell]; omega)
          have k1 : w3.cell? ⟨w.heap.size, 1, none⟩ = some (.int .i64 m) := cv hb3 (by go_simp) (by simp [World.setCell]; omega)
          have bwC : Below w.heap.size w w3 := bwB.trans (hb3.mono (by simp [World.setCell]; omega))
          clear c0 c1 fr1
          go_wp2_with fail
          refine (HCt.out _ bwC (by omega) k0 k1).mono ?_
          rintro e w4 ⟨rfl, hb4⟩
          go_wp2_with fail
          go_ret2
          exact nil_give _ _ _ (bwC.trans (hb4.mono bwC.size))
        · have ha' : l.any (meets (f, up s)) = false := by simpa using ha
          rw [if_pos (by rw [hg, ha']; rfl)]
          rw [ha'] at HCt
          have HV : Hid (∀ W : World, Below w.heap.size w W → Calls Try.prog 63 #[.slice A n c, .agg #[.int .i64 f, .int .i64 (up s)]] W fun e w' => ∃ A' c', e = .returned (.slice A' (giveL l (f, up s)).length c') ∧ (giveL l (f, up s)).length ≤ c' ∧ c' ≤ maxLen ∧
              w'.ownsRow W.heap.size 47 2 (.slice A' (giveL l (f, up s)).length c') (giveL l (f, up s)).length (cells (giveL l (f, up s))) ∧ Below W.heap.size W w') := Lib.hid (fun W hb =>
            give_any A n c l f (up s) W hl (by omega) hc hcm ((hA.below hb).more hb.size) HB g1 (by omega) (by omega) u2)
          clear hce hs hA hchk ht hl hg ha ha' HB
          generalize giveL l (f, up s) = r at *
          generalize up s = m at *
          go_enter Try.func47, Try.ntmps47
          go_wp2_with (first
            | (go_at_call 39; refine (HC.out _ ((Below.refl _ _).alloc (Nat.le_refl _) _)).mono ?_; rintro e w1 ⟨rfl, hb1⟩; have hs1 := hb1.size; simp at hs1; have c0 : w1.cell? ⟨w.heap.size, 0, none⟩ = some (.int .i64 f) := cv hb1 (cn w #[.int .i64 f, .int .i64 s] 47 0) (by simp); have c1 : w1.cell? ⟨w.heap.size, 1, none⟩ = some (.int .i64 s) := cv hb1 (cn w #[.int .i64 f, .int .i64 s] 47 1) (by simp); have fr1 : w1.frozen? ⟨w.heap.size, 1, none⟩ = false := (hb1.frozen (p := ⟨w.heap.size, 1, none⟩) (by simp)).trans (fn w _ _ _))
            | (go_at_call 56; refine (HS.out _).mono ?_; rintro e w2 ⟨rfl, rfl⟩))
          have bwA : Below w.heap.size w w1 := ((Below.refl _ _).alloc (Nat.le_refl _) _).trans (hb1.mono (by simp))
          have bwB : Below w.heap.size w (w1.setCell ⟨w.heap.size, 1, none⟩ (.int .i64 m)) := bwA.setCell (p := ⟨w.heap.size, 1, none⟩) (Nat.le_refl _) _
          refine (HGr.out _).mono ?_
          rintro e w3 ⟨rfl, hb3⟩
          have hs3 := hb3.size
          simp [World.setCell] at hs3
          have k0 : w3.cell? ⟨w.heap.size, 0, none⟩ = some (.int .i64 f) := cv hb3 (by go_simp) (by simp [World.setCell]; omega)
          have k1 : w3.cell? ⟨w.heap.size, 1, none⟩ = some (.int .i64 m) := cv hb3 (by go_simp) (by simp [World.setCell]; omega)
          have bwC : Below w.heap.size w w3 := bwB.trans (hb3.mono (by simp [World.setCell]; omega))
          clear c0 c1 fr1
          go_wp2_with fail
          refine (HCt.out _ bwC (by omega) k0 k1).mono ?_
          rintro e w4 ⟨rfl, hb4⟩
          have bwD : Below w.heap.size w w4 := bwC.trans (hb4.mono bwC.size)
          have q0 := cv hb4 k0 (show w.heap.size < _ by omega)
          have q1 := cv hb4 k1 (show w.heap.size < _ by omega)
          go_wp2_with fail
          refine (HV.out _ bwD).mono ?_
          rintro e w5 ⟨A', c', rfl, hk5, hm5, hown5, hb5⟩
          go_wp2_with fail
          go_ret2
          exact ⟨A', c', rfl, hk5, hm5, own_base hown5 bwD.size, bwD.trans (hb5.mono bwD.size)⟩
      · have hg' : grainB t (f, up s) = false := by simpa using hg
        rw [if_neg (by rw [hg']; simp)]
        have HGr : Hid (∀ W : World, Calls Try.prog 55 #[.int .i64 t, .agg #[.int .i64 f, .int .i64 (up s)]] W fun e w' => e = .returned (.bool false) ∧ Below W.heap.size W w') := Lib.hid (fun W => by rw [← hg']; exact grain_any t f (up s) W t0 t1)
        clear hce hs hA hchk ht hl hg hg'
        generalize up s = m at *
        go_enter Try.func47, Try.ntmps47
        go_wp2_with (first
          | (go_at_call 39; refine (HC.out _ ((Below.refl _ _).alloc (Nat.le_refl _) _)).mono ?_; rintro e w1 ⟨rfl, hb1⟩; have hs1 := hb1.size; simp at hs1; have c0 : w1.cell? ⟨w.heap.size, 0, none⟩ = some (.int .i64 f) := cv hb1 (cn w #[.int .i64 f, .int .i64 s] 47 0) (by simp); have c1 : w1.cell? ⟨w.heap.size, 1, none⟩ = some (.int .i64 s) := cv hb1 (cn w #[.int .i64 f, .int .i64 s] 47 1) (by simp); have fr1 : w1.frozen? ⟨w.heap.size, 1, none⟩ = false := (hb1.frozen (p := ⟨w.heap.size, 1, none⟩) (by simp)).trans (fn w _ _ _))
          | (go_at_call 56; refine (HS.out _).mono ?_; rintro e w2 ⟨rfl, rfl⟩))
        have bwA : Below w.heap.size w w1 := ((Below.refl _ _).alloc (Nat.le_refl _) _).trans (hb1.mono (by simp))
        have bwB : Below w.heap.size w (w1.setCell ⟨w.heap.size, 1, none⟩ (.int .i64 m)) := bwA.setCell (p := ⟨w.heap.size, 1, none⟩) (Nat.le_refl _) _
        refine (HGr.out _).mono ?_
        rintro e w3 ⟨rfl, hb3⟩
        have hs3 := hb3.size
        simp [World.setCell] at hs3
        have bwC : Below w.heap.size w w3 := bwB.trans (hb3.mono (by simp [World.setCell]; omega))
        go_wp2_with fail
        go_ret2
        exact nil_give _ _ _ bwC
  · rw [show giveA t l (f, s) = ([], checkE t l) from by unfold giveA; rw [if_pos (by simpa using hce)]]
    have hb : (checkE t l != 0) = true := by simp [hce]
    generalize checkE t l = ce at *
    clear hce hA hl
    go_enter Try.func47, Try.ntmps47
    go_wp2_with (go_at_call 39; refine (HC.out _ ((Below.refl _ _).alloc (Nat.le_refl _) _)).mono ?_; rintro e w1 ⟨rfl, hb1⟩)
    go_ret2
    exact nil_give _ _ _ (((Below.refl _ _).alloc (Nat.le_refl _) _).trans (hb1.mono (by simp)))
end Go.Proofs.Ytinjfmcmjhehoaa.gaps
