/-
  The contract of slices.Backward over bytes, for a range over it. No condition but the bytes as they stand in memory.
-/
import Derived.RangeFuncNested
import Derived.RangeFuncBound
import Derived.RangeFuncCalls
import Derived.RangeFuncLeaves
import Derived.Shelf.Abstract
import Derived.Shelf.RegionOpen
import Derived.OwnWalkIn
import Derived.TacticsInMore
import Derived.LoopNIn
import Derived.LoopIn
import Derived.Test.YtejhphnlickjlaaDoorBlX
set_option linter.unusedVariables false
set_option linter.unusedSimpArgs false
namespace Go.Proofs.YtejhphnlickjlaaDoor.bl
open Go.RowKit Go.Shelf
open M ty
set_option linter.unusedVariables false
attribute [local go_sem] Oper.semAt_some
/-- what has come when k rounds are over -/
def upto {α : Type} (f : Nat → α) (k : Nat) : List α := (List.range k).map f
theorem upto_succ {α : Type} (f : Nat → α) (k : Nat) : upto f (k + 1) = upto f k ++ [f k] := by simp [upto, List.range_succ]
theorem upto_length {α : Type} (f : Nat → α) (k : Nat) : (upto f k).length = k := by simp [upto]
/-- what a loop's body keeps: what lay below n₀, and the iterator's own variable -/
def KpB (n₀ Bs : Nat) (W W' : World) : Prop := Below n₀ W W' ∧ W'.heap[Bs]? = W.heap[Bs]?
/-- byte number k from the end -/
def backOf (zs : List By) (k : Nat) : Nat × By := (zs.length - 1 - k, zs[zs.length - 1 - k]?.getD By.zero)
set_option maxRecDepth 100000 in
set_option maxHeartbeats 2000000 in
theorem back1_in (F : Fence) (n : Nat) (h89 : F.fn 89) (hro : F.round = none) (hn : 1 ≤ n) (l Bs n₀ y p cap : Nat) (zs : List By) (hlen : zs.length ≤ 131072) (hb : y < n₀) (J Jx : List (Nat × By) → World → Prop)
    (hY : ∀ pre x W, J pre W → pre.length < zs.length → YieldAt F (n - 1) Tryd.prog l #[.int .i64 (x.1 : Int), .agg x.2.cells.toArray] W fun e W' =>
      (e = .returned (.bool true) ∧ J (pre ++ [x]) W' ∧ KpB n₀ Bs W W') ∨ (e = .returned (.bool false) ∧ Jx (pre ++ [x]) W'))
    (W : World) (hBs : W.heap[Bs]? = some (.cells #[.slice (some ⟨y, p, none⟩) zs.length cap] 52 (0, 0))) (hc : BytesAt W y p zs) (h0 : J [] W) :
    CallsIn F n Tryd.prog 89 #[.func (.yield l) #[] #[], .pointer (some ⟨Bs, 0, none⟩)] W fun e W' => (∃ v, e = .returned v) ∧
      ((∃ ys, ys = upto (backOf zs) zs.length ∧ J ys W') ∨ (∃ pre, (∃ k, k ≤ zs.length ∧ pre = upto (backOf zs) k) ∧ Jx pre W')) := by
  have HC := Lib.hid hc
  have HY := Lib.hid hY
  clear hc hY
  refine callsIn_of_wp Tryd.func89 rfl h89 ?_ hro
  simp only [Tryd.ntmps89, List.size_toArray, List.length_cons, List.length_nil, Nat.reduceAdd, Nat.reduceSub, Array.replicate_succ, Array.replicate_zero, List.push_toArray, List.append_toArray, List.nil_append, List.cons_append]
  have hBc : W.cell? ⟨Bs, 0, none⟩ = some (.slice (some ⟨y, p, none⟩) zs.length cap) := Go.Joins.cell_of_block hBs 0
  have hw0 : wrap64 ((zs.length : Int) - 1) = (zs.length : Int) - 1 := IntWalk.wrap64_in _ (by omega)
  gi_wp2
  gi_loopw [3] (fun i wr => ∃ k m : Nat, k + m = zs.length ∧ i = .int .i64 ((m : Int) - 1) ∧ J (upto (backOf zs) k) wr ∧ KpB n₀ Bs W wr)
    (fun i _ => (intOf i + 1).toNat)
  case atStart => exact ⟨0, zs.length, by omega, rfl, h0, Below.refl _ _, rfl⟩
  case round =>
    obtain ⟨k, m, hkm, rfl, hJs, hnx, hnb⟩ := hrel
    cases m with
    | zero =>
      obtain rfl : k = zs.length := by omega
      rw [show (((0 : Nat) : Int)) - 1 = -1 from rfl]
      gi_wp2
      go_end0
      exact ⟨⟨_, rfl⟩, .inl ⟨_, rfl, hJs⟩⟩
    | succ m =>
      rw [show (((m + 1 : Nat) : Int)) - 1 = (m : Int) by omega]
      have hm : m < zs.length := by omega
      have hx : zs[m]? = some zs[m] := List.getElem?_eq_getElem hm
      have hbk : backOf zs k = (m, zs[m]) := by unfold backOf; rw [show zs.length - 1 - k = m by omega, hx]; rfl
      have hBc' : wr.cell? ⟨Bs, 0, none⟩ = some (.slice (some ⟨y, p, none⟩) zs.length cap) := Go.Joins.cell_of_block (hnb.trans hBs) 0
      obtain ⟨a0, a1, a2, a3, a4, a5⟩ := HC.out m _ hx
      have kc : ∀ (r : Nat) (v : Value), W.cell? ⟨y, r, none⟩ = some v → wr.cell? ⟨y, r, none⟩ = some v := fun r v h => (hnx.cell (p := ⟨y, r, none⟩) hb).trans h
      replace a0 := kc _ _ a0
      replace a1 := kc _ _ a1
      replace a2 := kc _ _ a2
      replace a3 := kc _ _ a3
      replace a4 := kc _ _ a4
      replace a5 := kc _ _ a5
      obtain ⟨fn, tmps, assign, body, hy, hR⟩ := HY.out _ (m, zs[m]) wr hJs (by rw [upto_length]; omega)
      have hw1 : wrap64 ((m : Int) - 1) = (m : Int) - 1 := IntWalk.wrap64_in _ (by omega)
      have HU : Hid (upto (backOf zs) (k + 1) = upto (backOf zs) k ++ [(m, zs[m])]) := Lib.hid (by rw [upto_succ, hbk])
      dsimp only [By.cells] at hy
      clear kc hx hbk
      generalize zs[m] = x at *
      gi_wp2
      refine hR.mono ?_
      rintro e W3 (⟨rfl, hJ3, hk3, hk4⟩ | ⟨rfl, hJx3⟩)
      · gi_wp2
        go_roundw
        case rel => exact ⟨k + 1, m, by omega, by simp, by rw [HU.out]; exact hJ3, hnx.trans hk3, hk4.trans hnb⟩
        case measure => simp [intOf]
      · gi_wp2
        refine bodyPost_ret (results_none rfl _ _ _) rfl ?_
        exact ⟨⟨_, rfl⟩, .inr ⟨_, ⟨k + 1, by omega, HU.out.symm⟩, hJx3⟩⟩
/-- slices.Backward(s): the slice is boxed; the function value captures the box -/
theorem back_in (F : Fence) (n : Nat) (h80 : F.fn 80) (hro : F.round = none) (a : Option Addr) (len cap : Nat) (w : World) :
    CallsIn F n Tryd.prog 80 #[.slice a len cap] w fun e w' => e = .returned (.func (.func 89) #[] #[.pointer (some ⟨w.heap.size, 0, none⟩)]) ∧ w' = w.alloc (.cells #[.slice a len cap] 52) := by
  refine callsIn_of_wp Tryd.func80 rfl h80 ?_ hro
  simp only [Tryd.ntmps80, List.size_toArray, List.length_cons, List.length_nil, Nat.reduceAdd, Nat.reduceSub, Array.replicate_succ, Array.replicate_zero, List.push_toArray, List.append_toArray, List.nil_append, List.cons_append]
  gi_wp2
  go_ret
  exact ⟨rfl, rfl⟩
theorem back_stops (F : Fence) (n : Nat) (h89 : F.fn 89) (hro : F.round = none) (hn : 1 ≤ n) (Bs n₀ y p cap : Nat) (zs : List By) (hlen : zs.length ≤ 131072) (hb : y < n₀) (w : World) (hn₀ : n₀ ≤ w.heap.size)
    (hBs : w.heap[Bs]? = some (.cells #[.slice (some ⟨y, p, none⟩) zs.length cap] 52 (0, 0))) (hc : BytesAt w y p zs) :
    SeqStopsK F n Tryd.prog 89 #[.pointer (some ⟨Bs, 0, none⟩)] (fun x : Nat × By => #[Value.int .i64 (x.1 : Int), .agg x.2.cells.toArray]) (KpB n₀ Bs) (fun ys => ys = upto (backOf zs) zs.length)
      (fun pre => ∃ k, k ≤ zs.length ∧ pre = upto (backOf zs) k) zs.length w := fun l J Jx W hW _ _ hY h0 =>
  back1_in F n h89 hro hn l Bs n₀ y p cap zs hlen hb J Jx hY W ((hW.block Bs (Array.getElem?_eq_some_iff.1 hBs).1).trans hBs) (hc.below hW) h0
end Go.Proofs.YtejhphnlickjlaaDoor.bl
