/-
  Contracts of Check (package gap and reference): what both tell of any list. No condition but that the list is as long as a list can be.
-/
import Derived.Test.YtinjfmcmjhehoaaGapA
namespace Go.Proofs.Ytinjfmcmjhehoaa.gaps
open Go.ChangeShapes Go.WideShapes Go.ChangeAt Go.RowKit
open M G
set_option linter.unusedVariables false
theorem bcell {B : Nat} {W w1 : World} (hb : Below B W w1) : (∀ b o, b < B → w1.cell? ⟨b, o, none⟩ = W.cell? ⟨b, o, none⟩) ∧ (∀ b o, b < B → w1.frozen? ⟨b, o, none⟩ = W.frozen? ⟨b, o, none⟩) :=
  ⟨fun b o h => hb.cell (p := ⟨b, o, none⟩) h, fun b o h => hb.frozen (p := ⟨b, o, none⟩) h⟩
theorem checkE_new {t : Int} {l : List Gap} (h : okTotal t = false) : checkE t l = 1 := by simp [checkE, h]
theorem newE_bad {t : Int} (h : okTotal t = false) : newE t = 1 := by simp [newE, h]
theorem newE_ok {t : Int} (h : okTotal t = true) : newE t = 0 := by simp [newE, h]
theorem check_bad (t : Int) (A : Option Addr) (n c : Nat) (l : List Gap) (w : World) (ht : okTotal t = false) :
    Calls Try.prog 39 #[.int .i64 t, .slice A n c] w fun e w' => e = .returned (.int .i64 1) ∧ Below w.heap.size w w' := by
  have hn : ∀ W, Calls Try.prog 36 #[.int .i64 t] W (OwnRes W (newL t) 1) := fun W => by rw [← newE_bad ht]; exact new_any t W
  have Hn := Lib.hid hn
  clear hn ht
  go_enter Try.func39, Try.ntmps39
  go_wp2_with (go_at_call 36; refine (Hn.out _).mono ?_; rintro e w1 ⟨v, rfl, -, hb1⟩)
  go_ret
  exact ⟨rfl, hb1⟩
theorem check_long (t : Int) (A : Option Addr) (n c : Nat) (l : List Gap) (w : World) (ht : okTotal t = true) (hl : 4096 < n) (hn : n ≤ maxLen) :
    Calls Try.prog 39 #[.int .i64 t, .slice A n c] w fun e w' => e = .returned (.int .i64 3) ∧ Below w.heap.size w w' := by
  unfold maxLen at hn
  have hn : ∀ W, Calls Try.prog 36 #[.int .i64 t] W (OwnRes W (newL t) 0) := fun W => by rw [← newE_ok ht]; exact new_any t W
  have Hn := Lib.hid hn
  clear hn ht
  go_enter Try.func39, Try.ntmps39
  go_wp2_with (go_at_call 36; refine (Hn.out _).mono ?_; rintro e w1 ⟨v, rfl, -, hb1⟩)
  go_ret
  exact ⟨rfl, hb1⟩
set_option maxHeartbeats 400000 in
theorem check_loop (t : Int) (A : Option Addr) (n c : Nat) (l : List Gap) (w : World) (ht : okTotal t = true) (hl : l.length = n) (hn : n ≤ 4096) (hA : Rd w w.heap.size A (cells l)) :
    Calls Try.prog 39 #[.int .i64 t, .slice A n c] w fun e w' => e = .returned (.int .i64 (if chk t (-1) l then 0 else 5)) ∧ Below w.heap.size w w' := by
  have hnew : ∀ W, Calls Try.prog 36 #[.int .i64 t] W (OwnRes W (newL t) 0) := fun W => by rw [← newE_ok ht]; exact new_any t W
  have Hn := Lib.hid hnew
  obtain ⟨t0, t1, -⟩ := okTotal_bd ht
  have Hl := Lib.hid hl
  have HA := Lib.hid hA
  clear hnew ht hl hA
  generalize hans : chk t (-1) l = ans
  have Hans := Lib.hid hans
  clear hans
  generalize hcode : (if ans = true then (0 : Int) else 5) = code
  have Hcode := Lib.hid hcode
  clear hcode
  go_enter Try.func39, Try.ntmps39
  go_wp2_with (go_at_call 36; refine (Hn.out _).mono ?_; rintro e w1 ⟨v, rfl, -, hb1⟩)
  go_loopw [7, 23] (fun en i wr => ∃ (k : Nat) (e : Int), k ≤ n ∧ i = .int .i64 k ∧ en = .int .i64 e ∧ chk t e (l.drop k) = ans ∧ -1 ≤ e ∧ e ≤ 33554432 ∧ Below w.heap.size w wr) (fun _ i _ => n - (intOf i).toNat)
  case atStart => exact ⟨0, -1, by omega, rfl, rfl, Hans.out, by omega, by omega, hb1⟩
  case round =>
    obtain ⟨k, e, hk, rfl, rfl, hc, e1, e2, hb⟩ := hrel
    have Hc := Lib.hid hc
    clear hc
    by_cases hlt : k < n
    · obtain ⟨ad, p, x1, x2, rfl, hxk, hp, -, a1, a2⟩ := rd_at (HA.out.below hb) (k := k) (by rw [Hl.out]; exact hlt)
      have Hxk := Lib.hid hxk
      clear hxk
      have hsz := hb.size
      by_cases hg : grainB t (x1, x2) = true
      · obtain ⟨g1, g2, g3, g4, -, -⟩ := grain_bd hg
        have hgr : ∀ W, Calls Try.prog 55 #[.int .i64 t, .agg #[.int .i64 x1, .int .i64 x2]] W fun e w' => e = .returned (.bool true) ∧ Below W.heap.size W w' := fun W => by rw [← hg]; exact grain_any t x1 x2 W t0 t1
        have Hg := Lib.hid hg
        have Hgr := Lib.hid hgr
        clear hg hgr
        simp only at g1 g2 g3 g4
        by_cases hle : x1 ≤ e
        · have Hfin : Hid ((if ans = true then (0 : Int) else 5) = 5) := Lib.hid (by
            have h := Hc.out
            rw [chk_at (by rw [Hl.out]; exact hlt)] at h
            have hx : l[k]'(by rw [Hl.out]; exact hlt) = (x1, x2) := (List.getElem?_eq_some_iff.1 Hxk.out).2
            rw [hx] at h
            rw [← h]
            simp only [show decide (e < x1) = false from by simp; omega]
            simp)
          go_wp2_with (go_at_call 55; refine (Hgr.out _).mono ?_; rintro e' w2 ⟨rfl, hb2⟩; obtain ⟨hc2, hf2⟩ := bcell hb2)
          go_ret
          exact ⟨ret_int (Hfin.out.symm.trans Hcode.out), (hb.alloc hsz _).trans (hb2.mono (by simp; omega))⟩
        · have Hfin : Hid (chk t (x1 + x2) (l.drop (k + 1)) = ans) := Lib.hid (by
            have h := Hc.out
            rw [chk_at (by rw [Hl.out]; exact hlt)] at h
            have hx : l[k]'(by rw [Hl.out]; exact hlt) = (x1, x2) := (List.getElem?_eq_some_iff.1 Hxk.out).2
            rw [hx, Hg.out] at h
            rw [← h]
            simp only [show decide (e < x1) = true from by simp; omega]
            simp)
          go_wp2_with (go_at_call 55; refine (Hgr.out _).mono ?_; rintro e' w2 ⟨rfl, hb2⟩; obtain ⟨hc2, hf2⟩ := bcell hb2)
          go_roundw
          case rel => exact ⟨k + 1, x1 + x2, by omega, by go_num, rfl, Hfin.out, by omega, by omega, (hb.alloc hsz _).trans (hb2.mono (by simp; omega))⟩
          case measure => simp [intOf]; omega
      · have hg' : grainB t (x1, x2) = false := by simpa using hg
        have hgr : ∀ W, Calls Try.prog 55 #[.int .i64 t, .agg #[.int .i64 x1, .int .i64 x2]] W fun e w' => e = .returned (.bool false) ∧ Below W.heap.size W w' := fun W => by rw [← hg']; exact grain_any t x1 x2 W t0 t1
        have Hfin : Hid ((if ans = true then (0 : Int) else 5) = 5) := Lib.hid (by
            have h := Hc.out
            rw [chk_at (by rw [Hl.out]; exact hlt)] at h
            have hx : l[k]'(by rw [Hl.out]; exact hlt) = (x1, x2) := (List.getElem?_eq_some_iff.1 Hxk.out).2
            rw [hx, hg'] at h
            rw [← h]
            simp)
        have Hgr := Lib.hid hgr
        clear hg hg' hgr
        go_wp2_with (go_at_call 55; refine (Hgr.out _).mono ?_; rintro e' w2 ⟨rfl, hb2⟩; obtain ⟨hc2, hf2⟩ := bcell hb2)
        go_ret
        exact ⟨ret_int (Hfin.out.symm.trans Hcode.out), (hb.alloc hsz _).trans (hb2.mono (by simp; omega))⟩
    · obtain rfl : k = n := by omega
      have Hfin : Hid ((if ans = true then (0 : Int) else 5) = 0) := Lib.hid (by
        have h := Hc.out
        rw [List.drop_eq_nil_of_le (by rw [Hl.out]; omega)] at h
        rw [← h]
        rfl)
      go_wp2_with fail
      go_ret
      exact ⟨ret_int (Hfin.out.symm.trans Hcode.out), hb⟩
theorem tmod16 (x : Int) : x.tmod 16 = 0 ↔ x % 16 = 0 :=
  ⟨fun h => Int.emod_eq_zero_of_dvd (Int.dvd_of_tmod_eq_zero h), fun h => Int.tmod_eq_zero_of_dvd (Int.dvd_of_emod_eq_zero h)⟩
theorem rcheck_bad (t : Int) (A : Option Addr) (n c : Nat) (l : List Gap) (w : World) (ht : okTotal t = false) :
    Calls Try.prog 40 #[.int .i64 t, .slice A n c] w fun e w' => e = .returned (.int .i64 1) ∧ Below w.heap.size w w' := by
  have hn : ∀ W, Calls Try.prog 37 #[.int .i64 t] W (OwnRes W (newL t) 1) := fun W => by rw [← newE_bad ht]; exact rnew_any t W
  have Hn := Lib.hid hn
  clear hn ht
  go_enter Try.func40, Try.ntmps40
  go_wp2_with (go_at_call 37; refine (Hn.out _).mono ?_; rintro e w1 ⟨v, rfl, -, hb1⟩)
  go_ret
  exact ⟨rfl, hb1⟩
theorem rcheck_long (t : Int) (A : Option Addr) (n c : Nat) (l : List Gap) (w : World) (ht : okTotal t = true) (hl : 4096 < n) (hn : n ≤ maxLen) :
    Calls Try.prog 40 #[.int .i64 t, .slice A n c] w fun e w' => e = .returned (.int .i64 3) ∧ Below w.heap.size w w' := by
  unfold maxLen at hn
  have hn : ∀ W, Calls Try.prog 37 #[.int .i64 t] W (OwnRes W (newL t) 0) := fun W => by rw [← newE_ok ht]; exact rnew_any t W
  have Hn := Lib.hid hn
  clear hn ht
  go_enter Try.func40, Try.ntmps40
  go_wp2_with (go_at_call 37; refine (Hn.out _).mono ?_; rintro e w1 ⟨v, rfl, -, hb1⟩)
  go_ret
  exact ⟨rfl, hb1⟩
set_option maxHeartbeats 800000 in
theorem rcheck_loop (t : Int) (A : Option Addr) (n c : Nat) (l : List Gap) (w : World) (ht : okTotal t = true) (hl : l.length = n) (hn : n ≤ 4096) (hA : Rd w w.heap.size A (cells l)) :
    Calls Try.prog 40 #[.int .i64 t, .slice A n c] w fun e w' => e = .returned (.int .i64 (if chk t (-1) l then 0 else 5)) ∧ Below w.heap.size w w' := by
  have hnew : ∀ W, Calls Try.prog 37 #[.int .i64 t] W (OwnRes W (newL t) 0) := fun W => by rw [← newE_ok ht]; exact rnew_any t W
  have Hn := Lib.hid hnew
  obtain ⟨t0, t1, -⟩ := okTotal_bd ht
  have Hl := Lib.hid hl
  have HA := Lib.hid hA
  clear hnew ht hl hA
  generalize hans : chk t (-1) l = ans
  have Hans := Lib.hid hans
  clear hans
  generalize hcode : (if ans = true then (0 : Int) else 5) = code
  have Hcode := Lib.hid hcode
  clear hcode
  go_enter Try.func40, Try.ntmps40
  go_wp2_with (go_at_call 37; refine (Hn.out _).mono ?_; rintro e w1 ⟨v, rfl, -, hb1⟩)
  go_loopw [7, 8] (fun en i wr => ∃ (k : Nat) (e : Int), k ≤ n ∧ i = .int .i64 k ∧ en = .int .i64 e ∧ chk t e (l.drop k) = ans ∧ -1 ≤ e ∧ e ≤ 33554432 ∧ Below w.heap.size w wr) (fun _ i _ => n - (intOf i).toNat)
  case atStart => exact ⟨0, -1, by omega, rfl, rfl, Hans.out, by omega, by omega, hb1⟩
  case round =>
    obtain ⟨k, e, hk, rfl, rfl, hc, e1, e2, hb⟩ := hrel
    have Hc := Lib.hid hc
    clear hc
    by_cases hlt : k < n
    · obtain ⟨ad, p, x1, x2, rfl, hxk, hp, -, a1, a2⟩ := rd_at (HA.out.below hb) (k := k) (by rw [Hl.out]; exact hlt)
      have HS : Hid ((grainB t (x1, x2) && decide (e < x1) && chk t (x1 + x2) (l.drop (k + 1))) = ans) := Lib.hid (by
        have h := Hc.out
        rw [chk_at (by rw [Hl.out]; exact hlt)] at h
        have hx : l[k]'(by rw [Hl.out]; exact hlt) = (x1, x2) := (List.getElem?_eq_some_iff.1 hxk).2
        rw [hx] at h
        exact h)
      have hsz := hb.size
      clear hxk
      by_cases cx1 : x1.tmod 16 = 0
      · have bx1 : (x1.tmod 16 != 0) = false := by simp [cx1]
        have bx1' : (x1 % 16 != 0) = false := by simp [← tmod16, cx1]
        have dx1 : Hid ((x1 % 16 = 0) = True) := Lib.hid (by simp [← tmod16, cx1])
        clear cx1
        by_cases cx2 : x2.tmod 16 = 0
        · have bx2 : (x2.tmod 16 != 0) = false := by simp [cx2]
          have bx2' : (x2 % 16 != 0) = false := by simp [← tmod16, cx2]
          have dx2 : Hid ((x2 % 16 = 0) = True) := Lib.hid (by simp [← tmod16, cx2])
          clear cx2
          by_cases c3 : 0 < x2
          · by_cases c4 : x2 ≤ t
            · by_cases c5 : e < x1
              · by_cases c6 : x1 ≤ t - x2
                · have Hfin : Hid (chk t (x1 + x2) (l.drop (k + 1)) = ans) := Lib.hid (by
                    rw [← HS.out]
                    have hg : grainB t (x1, x2) = true := by simp [grainB, dx1.out, dx2.out]; omega
                    rw [hg, show decide (e < x1) = true from by simp; omega]
                    simp)
                  go_wp2
                  go_roundw
                  case rel => exact ⟨k + 1, x1 + x2, by omega, by go_num, rfl, Hfin.out, by omega, by omega, hb.alloc hsz _⟩
                  case measure => simp [intOf]; omega
                · have Hfin : Hid ((if ans = true then (0 : Int) else 5) = 5) := Lib.hid (by rw [← HS.out]; rw [show grainB t (x1, x2) = false from by simp [grainB]; omega]; simp)
                  go_wp2
                  go_ret
                  exact ⟨ret_int (Hfin.out.symm.trans Hcode.out), hb.alloc hsz _⟩
              · have Hfin : Hid ((if ans = true then (0 : Int) else 5) = 5) := Lib.hid (by rw [← HS.out]; simp only [show decide (e < x1) = false from by simp; omega]; simp)
                go_wp2
                go_ret
                exact ⟨ret_int (Hfin.out.symm.trans Hcode.out), hb.alloc hsz _⟩
            · have Hfin : Hid ((if ans = true then (0 : Int) else 5) = 5) := Lib.hid (by rw [← HS.out]; rw [show grainB t (x1, x2) = false from by simp [grainB]; omega]; simp)
              go_wp2
              go_ret
              exact ⟨ret_int (Hfin.out.symm.trans Hcode.out), hb.alloc hsz _⟩
          · have Hfin : Hid ((if ans = true then (0 : Int) else 5) = 5) := Lib.hid (by rw [← HS.out]; rw [show grainB t (x1, x2) = false from by simp [grainB]; omega]; simp)
            go_wp2
            go_ret
            exact ⟨ret_int (Hfin.out.symm.trans Hcode.out), hb.alloc hsz _⟩
        · have bx2 : (x2.tmod 16 != 0) = true := by simp [cx2]
          have bx2' : (x2 % 16 != 0) = true := by simp [← tmod16, cx2]
          have dx2 : Hid ((x2 % 16 = 0) = False) := Lib.hid (by simp [← tmod16, cx2])
          clear cx2
          have Hfin : Hid ((if ans = true then (0 : Int) else 5) = 5) := Lib.hid (by rw [← HS.out]; rw [show grainB t (x1, x2) = false from by simp [grainB, dx2.out]]; simp)
          go_wp2
          go_ret
          exact ⟨ret_int (Hfin.out.symm.trans Hcode.out), hb.alloc hsz _⟩
      · have bx1 : (x1.tmod 16 != 0) = true := by simp [cx1]
        have bx1' : (x1 % 16 != 0) = true := by simp [← tmod16, cx1]
        have dx1 : Hid ((x1 % 16 = 0) = False) := Lib.hid (by simp [← tmod16, cx1])
        clear cx1
        have Hfin : Hid ((if ans = true then (0 : Int) else 5) = 5) := Lib.hid (by rw [← HS.out]; rw [show grainB t (x1, x2) = false from by simp [grainB, dx1.out]]; simp)
        go_wp2
        go_ret
        exact ⟨ret_int (Hfin.out.symm.trans Hcode.out), hb.alloc hsz _⟩
    · obtain rfl : k = n := by omega
      have Hfin : Hid ((if ans = true then (0 : Int) else 5) = 0) := Lib.hid (by
        have h := Hc.out
        rw [List.drop_eq_nil_of_le (by rw [Hl.out]; omega)] at h
        rw [← h]
        rfl)
      go_wp2_with fail
      go_ret
      exact ⟨ret_int (Hfin.out.symm.trans Hcode.out), hb⟩
theorem check_any (t : Int) (A : Option Addr) (n c : Nat) (l : List Gap) (w : World) (hl : l.length = n) (hn : n ≤ maxLen) (hA : Rd w w.heap.size A (cells l)) :
    Calls Try.prog 39 #[.int .i64 t, .slice A n c] w fun e w' => e = .returned (.int .i64 (checkE t l)) ∧ Below w.heap.size w w' := by
  cases ht : okTotal t
  · rw [checkE_new ht]; exact check_bad t A n c l w ht
  · by_cases h : n ≤ 4096
    · rw [show checkE t l = if chk t (-1) l then 0 else 5 from by unfold checkE; rw [if_pos ht, if_neg (by omega)]]
      exact check_loop t A n c l w ht hl h hA
    · rw [show checkE t l = 3 from by unfold checkE; rw [if_pos ht, if_pos (by omega)]]
      exact check_long t A n c l w ht (by omega) hn
theorem rcheck_any (t : Int) (A : Option Addr) (n c : Nat) (l : List Gap) (w : World) (hl : l.length = n) (hn : n ≤ maxLen) (hA : Rd w w.heap.size A (cells l)) :
    Calls Try.prog 40 #[.int .i64 t, .slice A n c] w fun e w' => e = .returned (.int .i64 (checkE t l)) ∧ Below w.heap.size w w' := by
  cases ht : okTotal t
  · rw [checkE_new ht]; exact rcheck_bad t A n c l w ht
  · by_cases h : n ≤ 4096
    · rw [show checkE t l = if chk t (-1) l then 0 else 5 from by unfold checkE; rw [if_pos ht, if_neg (by omega)]]
      exact rcheck_loop t A n c l w ht hl h hA
    · rw [show checkE t l = 3 from by unfold checkE; rw [if_pos ht, if_pos (by omega)]]
      exact rcheck_long t A n c l w ht (by omega) hn
end Go.Proofs.Ytinjfmcmjhehoaa.gaps
