/-
  The contract of reach of package block. Condition: a store stands in memory.
-/
import Derived.Test.YtejhphnlickjlaaDoorBlA
import Derived.Deep.QuietTactic
import Derived.BigQuiet
set_option linter.unusedVariables false
set_option linter.unusedSimpArgs false
namespace Go.Proofs.YtejhphnlickjlaaDoor.bl
open Go.RowKit
open M ty
set_option linter.unusedVariables false
/-- the error of reach -/
def reachE (st : St) (k i o n : Int) : Int :=
  if k ≠ 2 ∨ ¬ (1 ≤ i ∧ i ≤ st.bl.length) ∨ o < 0 then 141 else
    match st.bl[(i - 1).toNat]? with
    | none => 141
    | some b => if b.dead = true then 140 else if (b.bs.length : Int) < o ∨ (b.bs.length : Int) - o < n then 141 else 0
/-- the bytes from o on, n of them, of the block of bytes y, which has m -/
def sliceAt (y m : Nat) (o n : Int) : Value := .slice (if m = o.toNat then some ⟨y, 0, none⟩ else some ⟨y, o.toNat * 6, none⟩) n.toNat (m - o.toNat)
/-- what reach hands back -/
def reachR (st : St) (L : Lay) (k i o n : Int) : Value :=
  if reachE st k i o n = 0 then .tuple #[.pointer (some ⟨L.pb (i - 1).toNat, 0, none⟩), sliceAt (L.py (i - 1).toNat) ((st.bl[(i - 1).toNat]?.map fun b => b.bs.length).getD 0) o n, .int .i64 0]
  else .tuple #[.pointer none, .slice none 0 0, .int .i64 (reachE st k i o n)]
section
variable {w : World} {B g N : Nat} {st : St} {L : Lay}
theorem reachR_no {k i o n E : Int} (h : reachE st k i o n = E) (h0 : E ≠ 0) : reachR st L k i o n = .tuple #[.pointer none, .slice none 0 0, .int .i64 E] := by
  unfold reachR; rw [h, if_neg h0]
theorem wrapIn {x : Int} (h0 : -9223372036854775808 ≤ x) (h1 : x ≤ 9223372036854775807) : IntKind.i64.wrap x = x := by rw [IntKind.wrap_i64]; omega
abbrev box (w : World) (k i o : Int) : World := w.alloc (.cells #[.int .i64 k, .int .i64 i, .int .i64 o] 24)
def OfIs (W : World) (g : Nat) (i : Int) (v : Value) : Prop := Calls Tryd.prog 67 #[.pointer (some ⟨g, 0, none⟩), .int .i64 i] W fun e w' => e = .returned v ∧ w' = W
def AliveIs (W : World) (p : Nat) (b : Bool) : Prop := Calls Tryd.prog 68 #[.pointer (some ⟨p, 0, none⟩)] W fun e w' => e = .returned (.bool b) ∧ w' = W
set_option maxRecDepth 20000 in
theorem reach_kind (k i o n : Int) (hk : (k != 2) = true) :
    Calls Tryd.prog 59 #[.pointer (some ⟨g, 0, none⟩), .agg #[.int .i64 k, .int .i64 i, .int .i64 o], .int .i64 n] w fun e w' => e = .returned (.tuple #[.pointer none, .slice none 0 0, .int .i64 141]) ∧ Below w.heap.size w w' := by
  go_enter Tryd.func59, Tryd.ntmps59
  go_wp2_with fail
  go_ret3
  exact ⟨rfl, (Below.refl _ _).alloc (Nat.le_refl _) _⟩
set_option maxRecDepth 20000 in
theorem reach_nil (i o n : Int) (HO : Hid (OfIs (box w 2 i o) g i (.pointer none))) :
    Calls Tryd.prog 59 #[.pointer (some ⟨g, 0, none⟩), .agg #[.int .i64 2, .int .i64 i, .int .i64 o], .int .i64 n] w fun e w' => e = .returned (.tuple #[.pointer none, .slice none 0 0, .int .i64 141]) ∧ Below w.heap.size w w' := by
  go_enter Tryd.func59, Tryd.ntmps59
  go_wp2_with (go_at_call 67; refine HO.out.mono ?_; rintro e w1 ⟨rfl, rfl⟩)
  go_ret3
  exact ⟨rfl, (Below.refl _ _).alloc (Nat.le_refl _) _⟩
section
variable {p y m : Nat}
set_option maxRecDepth 20000 in
theorem reach_neg (i o n : Int) (ho : o < 0) (HO : Hid (OfIs (box w 2 i o) g i (.pointer (some ⟨p, 0, none⟩)))) :
    Calls Tryd.prog 59 #[.pointer (some ⟨g, 0, none⟩), .agg #[.int .i64 2, .int .i64 i, .int .i64 o], .int .i64 n] w fun e w' => e = .returned (.tuple #[.pointer none, .slice none 0 0, .int .i64 141]) ∧ Below w.heap.size w w' := by
  go_enter Tryd.func59, Tryd.ntmps59
  go_wp2_with (go_at_call 67; refine HO.out.mono ?_; rintro e w1 ⟨rfl, rfl⟩)
  go_ret3
  exact ⟨rfl, (Below.refl _ _).alloc (Nat.le_refl _) _⟩
set_option maxRecDepth 20000 in
theorem reach_dead (i o n : Int) (ho : ¬ o < 0) (HO : Hid (OfIs (box w 2 i o) g i (.pointer (some ⟨p, 0, none⟩)))) (HA : Hid (AliveIs (box w 2 i o) p false)) :
    Calls Tryd.prog 59 #[.pointer (some ⟨g, 0, none⟩), .agg #[.int .i64 2, .int .i64 i, .int .i64 o], .int .i64 n] w fun e w' => e = .returned (.tuple #[.pointer none, .slice none 0 0, .int .i64 140]) ∧ Below w.heap.size w w' := by
  go_enter Tryd.func59, Tryd.ntmps59
  go_wp2_with (first | (go_at_call 67; refine HO.out.mono ?_; rintro e w1 ⟨rfl, rfl⟩) | (go_at_call 68; refine HA.out.mono ?_; rintro e w1 ⟨rfl, rfl⟩))
  go_ret3
  exact ⟨rfl, (Below.refl _ _).alloc (Nat.le_refl _) _⟩
set_option maxRecDepth 20000 in
set_option maxHeartbeats 800000 in
theorem reach_past (i o n : Int) (ho : ¬ o < 0) (hlo : (m : Int) < o) (HO : Hid (OfIs (box w 2 i o) g i (.pointer (some ⟨p, 0, none⟩)))) (HA : Hid (AliveIs (box w 2 i o) p true))
    (c2 : (box w 2 i o).cell? ⟨p, 2, none⟩ = some (.slice (some ⟨y, 0, none⟩) m m)) :
    Calls Tryd.prog 59 #[.pointer (some ⟨g, 0, none⟩), .agg #[.int .i64 2, .int .i64 i, .int .i64 o], .int .i64 n] w fun e w' => e = .returned (.tuple #[.pointer none, .slice none 0 0, .int .i64 141]) ∧ Below w.heap.size w w' := by
  go_enter Tryd.func59, Tryd.ntmps59
  go_wp2_with (first | (go_at_call 67; refine HO.out.mono ?_; rintro e w1 ⟨rfl, rfl⟩) | (go_at_call 68; refine HA.out.mono ?_; rintro e w1 ⟨rfl, rfl⟩))
  go_quiet (fail)
  go_wp2_with fail
  go_ret3
  exact ⟨rfl, belowN ((Below.refl _ _).alloc (Nat.le_refl _) _) _⟩
set_option maxRecDepth 20000 in
set_option maxHeartbeats 800000 in
theorem reach_long (i o n : Int) (ho : ¬ o < 0) (hlo : ¬ (m : Int) < o) (hln : (m : Int) - o < n) (hm : m ≤ 131072) (HO : Hid (OfIs (box w 2 i o) g i (.pointer (some ⟨p, 0, none⟩)))) (HA : Hid (AliveIs (box w 2 i o) p true))
    (c2 : (box w 2 i o).cell? ⟨p, 2, none⟩ = some (.slice (some ⟨y, 0, none⟩) m m)) :
    Calls Tryd.prog 59 #[.pointer (some ⟨g, 0, none⟩), .agg #[.int .i64 2, .int .i64 i, .int .i64 o], .int .i64 n] w fun e w' => e = .returned (.tuple #[.pointer none, .slice none 0 0, .int .i64 141]) ∧ Below w.heap.size w w' := by
  have hwr : IntKind.i64.wrap ((m : Int) - o) = (m : Int) - o := wrapIn (by omega) (by omega)
  go_enter Tryd.func59, Tryd.ntmps59
  go_wp2_with (first | (go_at_call 67; refine HO.out.mono ?_; rintro e w1 ⟨rfl, rfl⟩) | (go_at_call 68; refine HA.out.mono ?_; rintro e w1 ⟨rfl, rfl⟩))
  go_quiet (fail)
  go_wp2_with fail
  go_ret3
  exact ⟨rfl, belowN ((Below.refl _ _).alloc (Nat.le_refl _) _) _⟩
set_option maxRecDepth 20000 in
set_option maxHeartbeats 800000 in
theorem reach_ok (i o n : Int) (ho : 0 ≤ o) (hn : 0 ≤ n) (hlo : o ≤ m) (hln : n ≤ (m : Int) - o) (hm : m ≤ 131072) (HO : Hid (OfIs (box w 2 i o) g i (.pointer (some ⟨p, 0, none⟩)))) (HA : Hid (AliveIs (box w 2 i o) p true))
    (c2 : (box w 2 i o).cell? ⟨p, 2, none⟩ = some (.slice (some ⟨y, 0, none⟩) m m)) :
    Calls Tryd.prog 59 #[.pointer (some ⟨g, 0, none⟩), .agg #[.int .i64 2, .int .i64 i, .int .i64 o], .int .i64 n] w fun e w' => e = .returned (.tuple #[.pointer (some ⟨p, 0, none⟩), sliceAt y m o n, .int .i64 0]) ∧ Below w.heap.size w w' := by
  have hwr : IntKind.i64.wrap ((m : Int) - o) = (m : Int) - o := wrapIn (by omega) (by omega)
  have hws : IntKind.i64.wrap (o + n) = o + n := wrapIn (by omega) (by omega)
  have d1 : decide ((m : Int) < o) = false := by rw [decide_eq_false_iff_not]; omega
  have d2 : decide ((m : Int) - o < n) = false := by rw [decide_eq_false_iff_not]; omega
  go_enter Tryd.func59, Tryd.ntmps59
  go_wp2_with (first | (go_at_call 67; refine HO.out.mono ?_; rintro e w1 ⟨rfl, rfl⟩) | (go_at_call 68; refine HA.out.mono ?_; rintro e w1 ⟨rfl, rfl⟩))
  go_quiet (fail)
  have hs1 : o ≤ o + n := by omega
  have hs2 : o + n ≤ (m : Int) := by omega
  have hs3 : 0 ≤ o + n := by omega
  go_wp2_with fail
  go_quiet (fail)
  have hsl : (o + n).toNat - o.toNat = n.toNat := by omega
  go_wp2_with fail
  all_goals
    go_ret3
    refine ⟨?_, belowN ((Below.refl _ _).alloc (Nat.le_refl _) _) _⟩
    simp [sliceAt, *]
end
end
end Go.Proofs.YtejhphnlickjlaaDoor.bl
