/-
  The law GapDisjoint, walked: for every total and every list of sizes, the ranges that are held at one time are disjoint, inside, and just what the list has not. No condition but the list as it stands in memory.
-/
import Derived.Test.YtinjfmcmjhehoaaGapW
import Derived.Deep.DeepCutAuto
import Derived.Deep.LoopGhost
import Derived.Outline
namespace Go.Proofs.Ytinjfmcmjhehoaa.gaps
open Go.ChangeShapes Go.WideShapes Go.ChangeAt Go.RowKit
open M G
set_option linter.unusedVariables false
def TA (t : Int) (ms : List Int) (k : Nat) : List Gap := heldOf (plays t (ms.take k)).tk
theorem TA_zero (t : Int) (ms : List Int) : TA t ms 0 = [] := rfl
theorem own_drewN {w : World} {B n c : Nat} {e : TypeId} {v : Value} {xs : List Value} (h : w.ownsRow B e n v c xs) (q : Nat) : (w.drewN q).ownsRow B e n v c xs := h
theorem fz_drewN {w : World} {p : Addr} {b : Bool} (h : w.frozen? p = b) (q : Nat) : (w.drewN q).frozen? p = b := h
set_option maxRecDepth 100000 in
set_option maxHeartbeats 800000 in
theorem law_dis_bad (t : Int) (A : Option Addr) (n c : Nat) (ns : List Int) (w : World) (hl : ns.length = n) (hreach : n * 8 ≤ 140737488351232) (hc : n ≤ c) (hcm : c ≤ maxLen) (hA : Rd w w.heap.size A (ints ns)) (hp : playR t (ns.take 200) = ([], [], 1)) :
    Calls Try.prog 8 #[.int .i64 t, .slice A n c] w fun e w' => e = .returned (.bool true) ∧ Below w.heap.size w w' := by
  have hnm : n ≤ maxLen := by unfold maxLen; omega
  obtain ⟨m, hm⟩ : ∃ m, m = min n 200 := ⟨_, rfl⟩
  obtain ⟨ms, hms⟩ : ∃ ms, ms = ns.take 200 := ⟨_, rfl⟩
  rw [← hms] at hp
  have Hm : Hid (m = min n 200) := Lib.hid hm
  have hm2 : m ≤ 200 := by omega
  have Hlm : Hid (ms.length = m) := Lib.hid (by rw [hms, List.length_take]; omega)
  have HA : Hid (∀ W : World, Below w.heap.size w W → Rd W W.heap.size A (ints ms)) := Lib.hid (fun W hb => by
    have h1 := ((hA.below hb).more hb.size).take 200
    rwa [show (ints ns).take 200 = ints ms from by rw [hms, ints, ints, List.map_take]] at h1)
  clear hm hms hA hl
  have HW := Lib.hid (works_any)
  have HP : Hid (∀ W : World, Rd W W.heap.size A (ints ms) → Calls Try.prog 45 #[.int .i64 t, .slice A m c] W fun e w' => ∃ A1 c1 A2 c2, e = .returned (.tuple #[.slice A1 0 c1, .slice A2 0 c2, .int .i64 1]) ∧ Below W.heap.size W w') :=
    Lib.hid (fun W h => by
      have := Play_any t A m c ms W Hlm.out (by simp only [maxLen]; omega) h
      rw [hp] at this
      exact this.mono fun e w' ⟨A1, c1, A2, c2, he, _, _, _, _, _, _, hb⟩ => ⟨A1, c1, A2, c2, he, hb⟩)
  clear hp
  unfold maxLen at hnm
  go_enter Try.func8, Try.ntmps8
  go_upto_if 22 with (first | (go_at_call 43; refine (HW.out _).mono ?_; rintro e w1 ⟨rfl, hb1⟩))
  go_cut [1] (fun s1 wc => s1 = .slice A m c ∧ wc = w1)
  case first =>
    by_cases h : 200 < n
    · have e : m = 200 := by have := Hm.out; omega
      subst e
      go_wp2_with fail
      go_meet
      case rel => exact ⟨rfl, rfl⟩
    · have e : m = n := by have := Hm.out; omega
      subst e
      go_wp2_with fail
      go_meet
      case rel => exact ⟨rfl, rfl⟩
  case rest =>
    obtain ⟨rfl, rfl⟩ := hcut
    go_wp2_with (go_at_call 45; refine (HP.out _ (HA.out _ hb1)).mono ?_; rintro e w2 ⟨A1, c1, A2, c2, rfl, hb2⟩)
    go_ret
    exact ⟨rfl, hb1.trans (hb2.mono hb1.size)⟩
end Go.Proofs.Ytinjfmcmjhehoaa.gaps
