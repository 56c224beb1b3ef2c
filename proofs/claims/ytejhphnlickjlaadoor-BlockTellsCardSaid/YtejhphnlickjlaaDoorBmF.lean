/-
  What the chapter's examples tell, reckoned. No program's code in sight.
-/
import Derived.Test.YtejhphnlickjlaaDoorBlV
import Derived.Test.YtejhphnlickjlaaDoorBmC
set_option linter.unusedVariables false
set_option linter.unusedSimpArgs false
namespace Go.Proofs.YtejhphnlickjlaaDoor.bl
open Go.RowKit Go.Maps
open M ty
set_option linter.unusedVariables false
/-- the error of Make -/
def makeE (st : St) (n k : Int) : Int := if n < 0 ∨ 131072 < n ∨ (k ≠ 0 ∧ k ≠ 1) then 1 else if 65536 ≤ st.live ∨ 1048576 < wrap64 (st.sum + n) then 3 else 0
section
variable {w W W' : World} {B g N : Nat} {st : St} {L : Lay} {n k : Int}
set_option maxRecDepth 20000 in
set_option maxHeartbeats 1600000 in
theorem make_range (hr : n < 0 ∨ ¬ n < 0 ∧ 131072 < n ∨ ¬ n < 0 ∧ ¬ 131072 < n ∧ (k != 0) = true ∧ (k != 1) = true) :
    Calls Tryd.prog 56 #[.pointer (some ⟨g, 0, none⟩), .int .i64 n, .int .i64 k] w fun e w' => e = .returned (.tuple #[.int .i64 0, .int .i64 1]) ∧ w' = w := by
  rcases hr with h1 | ⟨h1, h2⟩ | ⟨h1, h2, h3, h4⟩
  all_goals
    go_enter Tryd.func56, Tryd.ntmps56
    go_wp2_with fail
    go_ret2
    exact ⟨rfl, rfl⟩
set_option maxRecDepth 20000 in
set_option maxHeartbeats 1600000 in
theorem make_long (h : Hid (Sto w B g N st L)) (h1 : ¬ n < 0) (h2 : ¬ 131072 < n) (hk : k = 0 ∨ k = 1) (hr : 65536 ≤ st.live ∨ ¬ 65536 ≤ st.live ∧ 1048576 < wrap64 (st.sum + n)) :
    Calls Tryd.prog 56 #[.pointer (some ⟨g, 0, none⟩), .int .i64 n, .int .i64 k] w fun e w' => e = .returned (.tuple #[.int .i64 0, .int .i64 3]) ∧ w' = w := by
  obtain ⟨c0, c1, c2, c3⟩ := h.out.topc
  rcases hr with h3 | ⟨h3, h4⟩
  all_goals
    rcases hk with rfl | rfl
    all_goals
      go_enter Tryd.func56, Tryd.ntmps56
      go_wp2_with fail
      go_ret2
      exact ⟨rfl, rfl⟩
theorem make_any (h : Sto w B g N st L) (hN : N < 1099511627776) (hB : st.bl.length ≤ N) (n k : Int) :
    Calls Tryd.prog 56 #[.pointer (some ⟨g, 0, none⟩), .int .i64 n, .int .i64 k] w fun e w' =>
      e = .returned (.tuple #[.int .i64 (if makeE st n k = 0 then (st.bl.length : Int) + 1 else 0), .int .i64 (makeE st n k)]) ∧
      (makeE st n k = 0 → (∃ L', Sto w' B g (N + 1) (st.make k n.toNat) L') ∧ Fr w w' g L st.bl.length) ∧ (makeE st n k ≠ 0 → w' = w) := by
  by_cases h1 : n < 0 ∨ 131072 < n ∨ (k ≠ 0 ∧ k ≠ 1)
  · have hE : makeE st n k = 1 := by unfold makeE; rw [if_pos h1]
    rw [hE, if_neg (by decide)]
    refine (make_range (by simp only [bne_iff_ne]; omega)).mono fun e w' x => ⟨x.1, fun h0 => absurd h0 (by decide), fun _ => x.2⟩
  · by_cases h2 : 65536 ≤ st.live ∨ 1048576 < wrap64 (st.sum + n)
    · have hE : makeE st n k = 3 := by unfold makeE; rw [if_neg h1, if_pos h2]
      rw [hE, if_neg (by decide)]
      exact (make_long (Lib.hid h) (by omega) (by omega) (by omega) (by omega)).mono fun e w' x => ⟨x.1, fun h0 => absurd h0 (by decide), fun _ => x.2⟩
    · have hE : makeE st n k = 0 := by unfold makeE; rw [if_neg h1, if_neg h2]
      rw [hE, if_pos rfl]
      obtain ⟨m, rfl⟩ : ∃ m : Nat, n = m := ⟨n.toNat, by omega⟩
      rw [Int.toNat_natCast]
      exact (make_ok (Lib.hid h) hN (Lib.hid hB) (by omega) (by omega) (by omega) (by omega) (by omega)).mono fun e w' x => ⟨x.1, fun _ => x.2, fun h0 => absurd rfl h0⟩
end
end Go.Proofs.YtejhphnlickjlaaDoor.bl
namespace Go.Proofs.YtejhphnlickjlaaDoor.bl
open Go.RowKit
open M ty
set_option linter.unusedVariables false
def wst0 : St := ⟨[], 0, 0⟩
def wst1 : St := wst0.make 0 8
def wst2 : St := wst1.put 0 4 (stB 4 1 300 0)
def wst3 : St := wst2.put 0 0 (stB 4 2 1 4)
theorem w_make : makeE wst0 8 0 = 0 := by simp [makeE, wst0, wrap64]
theorem w_st1 : wst1 = ⟨[⟨0, false, List.replicate 8 By.zero⟩], 1, 8⟩ := by simp [wst1, wst0, St.make, wrap64]
def bs2 : List By := [By.zero, By.zero, By.zero, By.zero, ⟨1, 44, 0, 0, 0, 0⟩, ⟨1, 1, 0, 0, 0, 0⟩, ⟨1, 0, 0, 0, 0, 0⟩, ⟨1, 0, 0, 0, 0, 0⟩]
def bs3 : List By := [⟨2, 0, 0, 2, 1, 4⟩, ⟨2, 1, 0, 2, 1, 4⟩, ⟨2, 2, 0, 2, 1, 4⟩, ⟨2, 3, 0, 2, 1, 4⟩, ⟨1, 44, 0, 0, 0, 0⟩, ⟨1, 1, 0, 0, 0, 0⟩, ⟨1, 0, 0, 0, 0, 0⟩, ⟨1, 0, 0, 0, 0, 0⟩]
theorem w_st2 : wst2 = ⟨[⟨0, false, bs2⟩], 1, 8⟩ := by
  unfold wst2
  rw [w_st1]
  have e : stB 4 1 300 0 = [⟨1, 44, 0, 0, 0, 0⟩, ⟨1, 1, 0, 0, 0, 0⟩, ⟨1, 0, 0, 0, 0, 0⟩, ⟨1, 0, 0, 0, 0, 0⟩] := by simp [stB, List.range_succ]
  rw [e]
  simp [St.put, putB, bs2]
theorem w_st3 : wst3 = ⟨[⟨0, false, bs3⟩], 1, 8⟩ := by
  unfold wst3
  rw [w_st2]
  have e : stB 4 2 1 4 = [⟨2, 0, 0, 2, 1, 4⟩, ⟨2, 1, 0, 2, 1, 4⟩, ⟨2, 2, 0, 2, 1, 4⟩, ⟨2, 3, 0, 2, 1, 4⟩] := by simp [stB, List.range_succ]
  rw [e]
  simp [St.put, putB, bs2, bs3]
theorem bits_i : T.bitsT [105] = 32 := by simp [T.bitsT]
theorem bits_c : T.bitsT [99] = 8 := by simp [T.bitsT]
theorem bits_pi : T.bitsT [112, 105] = 0 := by simp [T.bitsT]
theorem bits_pc : T.bitsT [112, 99] = 0 := by simp [T.bitsT]
theorem width_i : widthT [105] = 4 := by simp [widthT, bits_i]
theorem width_c : widthT [99] = 1 := by simp [widthT, bits_c]
theorem form_p (c : Int) (hc : T.Ty false [c] []) : T.formT [112, c] = true := by
  unfold T.formT
  simp only [decide_eq_true_eq]
  exact ⟨by simp, .ptr hc⟩
theorem ptr_pi : T.ptrT [112, 105] = true := by unfold T.ptrT; rw [form_p 105 (.base (by decide))]; rfl
theorem ptr_pc : T.ptrT [112, 99] = true := by unfold T.ptrT; rw [form_p 99 (.base (by decide))]; rfl
theorem width_pi : widthT [112, 105] = 4 := by simp [widthT, bits_pi, ptr_pi]
theorem width_pc : widthT [112, 99] = 4 := by simp [widthT, bits_pc, ptr_pc]
theorem fits_i : fitsT [105] 1 300 0 = true := by simp [fitsT, bits_i, rangeT]
theorem fits_pi : fitsT [112, 105] 2 1 4 = true := by simp [fitsT, bits_pi]
theorem w_reach1 : reachE wst1 2 1 4 4 = 0 := by rw [w_st1]; rfl
theorem w_reach2 (o n : Int) (h : o = 4 ∧ n = 1 ∨ o = 0 ∧ n = 4) : reachE wst2 2 1 o n = 0 := by rw [w_st2]; rcases h with ⟨rfl, rfl⟩ | ⟨rfl, rfl⟩ <;> rfl
theorem w_reach3 : reachE wst3 2 1 0 4 = 0 := by rw [w_st3]; rfl
theorem w_store1 : storeE wst1 [105] 2 1 4 1 300 0 = 0 := by
  unfold storeE
  rw [width_i, fits_i]
  simp only [show ((4 : Nat) : Int) = 4 from rfl, w_reach1]
  rw [w_st1]
  simp [kindOf]
theorem w_store2 : storeE wst2 [112, 105] 2 1 0 2 1 4 = 0 := by
  unfold storeE
  rw [width_pi, fits_pi]
  simp only [show ((4 : Nat) : Int) = 4 from rfl, w_reach2 0 4 (.inr ⟨rfl, rfl⟩)]
  rw [w_st2]
  simp [kindOf]
theorem w_load1 : loadR wst2 [99] 2 1 4 = (0, 1, 44, 0) := by
  unfold loadR
  rw [width_c]
  simp only [show ((1 : Nat) : Int) = 1 from rfl, w_reach2 4 1 (.inl ⟨rfl, rfl⟩)]
  have hb : bytesAt wst2 1 4 1 = [⟨1, 44, 0, 0, 0, 0⟩] := by rw [w_st2]; rfl
  rw [hb]
  unfold loadB
  rw [bits_c]
  have hn : numT (rangeT [99]).2 [⟨1, 44, 0, 0, 0, 0⟩] = 44 := by kernel_rfl
  simp [isUn, hn]
theorem w_load2 : loadR wst2 [105] 2 1 0 = (143, 0, 0, 0) := by
  unfold loadR
  rw [width_i]
  simp only [show ((4 : Nat) : Int) = 4 from rfl, w_reach2 0 4 (.inr ⟨rfl, rfl⟩)]
  have hb : bytesAt wst2 1 0 4 = [By.zero, By.zero, By.zero, By.zero] := by rw [w_st2]; rfl
  rw [hb]
  unfold loadB
  simp [isUn, By.zero]
theorem w_bytes3 : bytesAt wst3 1 0 4 = [⟨2, 0, 0, 2, 1, 4⟩, ⟨2, 1, 0, 2, 1, 4⟩, ⟨2, 2, 0, 2, 1, 4⟩, ⟨2, 3, 0, 2, 1, 4⟩] := by rw [w_st3]; rfl
theorem w_load3 : loadR wst3 [105] 2 1 0 = (144, 0, 0, 0) := by
  unfold loadR
  rw [width_i]
  simp only [show ((4 : Nat) : Int) = 4 from rfl, w_reach3]
  rw [w_bytes3]
  unfold loadB
  rw [bits_i]
  simp [isUn]
theorem w_load4 : loadR wst3 [112, 99] 2 1 0 = (0, 2, 1, 4) := by
  unfold loadR
  rw [width_pc]
  simp only [show ((4 : Nat) : Int) = 4 from rfl, w_reach3]
  rw [w_bytes3]
  unfold loadB
  rw [bits_pc]
  have hp : ∀ j, j < [(⟨2, 0, 0, 2, 1, 4⟩ : By), ⟨2, 1, 0, 2, 1, 4⟩, ⟨2, 2, 0, 2, 1, 4⟩, ⟨2, 3, 0, 2, 1, 4⟩].length → Piece ⟨2, 0, 0, 2, 1, 4⟩ [⟨2, 0, 0, 2, 1, 4⟩, ⟨2, 1, 0, 2, 1, 4⟩, ⟨2, 2, 0, 2, 1, 4⟩, ⟨2, 3, 0, 2, 1, 4⟩] j := by
    intro j hj x hx
    have : j = 0 ∨ j = 1 ∨ j = 2 ∨ j = 3 := by simp at hj; omega
    rcases this with rfl | rfl | rfl | rfl <;> simp at hx <;> subst hx <;> simp
  have hq : ([(⟨2, 0, 0, 2, 1, 4⟩ : By), ⟨2, 1, 0, 2, 1, 4⟩, ⟨2, 2, 0, 2, 1, 4⟩, ⟨2, 3, 0, 2, 1, 4⟩][0]?.getD By.zero) = ⟨2, 0, 0, 2, 1, 4⟩ := rfl
  rw [hq, if_pos hp]
  simp [isUn]
end Go.Proofs.YtejhphnlickjlaaDoor.bl
