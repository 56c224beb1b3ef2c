/-
  What Conv answers; the variables of the reference's Conv. No condition.
-/
import Derived.Test.YtejhphnlickjlaaDoorVaQ
import Derived.Deep.RegionWith
namespace Go.Proofs.YtejhphnlickjlaaDoor.ty
open Go.ChangeShapes Go.WideShapes Go.RowKit
open M T W
set_option linter.unusedVariables false
/-- what Conv answers -/
noncomputable def convV (l m : List Int) (k i o : Int) : Value :=
  if (bitsT l ≠ 0 ∧ bitsT m ≠ 0) ∨ (ptrT l = true ∧ ptrT m = true ∧ codeT l = codeT m) then
    (if lookV l k i o = 0 then (if bitsT l ≠ 0 then .tuple #[vT 1 (wrapT m i) 0, .int .i64 0] else .tuple #[vT k i o, .int .i64 0]) else .tuple #[vT 0 0 0, .int .i64 (lookV l k i o)])
  else .tuple #[vT 0 0 0, .int .i64 5]
/-- the variables: the value, the result -/
structure EnvD (w W : World) (k i o : Int) : Prop where
  below : Below w.heap.size w W
  v : W.heap[w.heap.size]? = some (.cells #[.int .i64 k, .int .i64 i, .int .i64 o] 24 (0, 0))
  r : W.heap[w.heap.size + 1]? = some (.cells #[.int .i64 0, .int .i64 0, .int .i64 0] 24 (0, 0))
section
variable {w : World} {k i o : Int}
theorem EnvD.after {W W' : World} (h : EnvD w W k i o) (hb : Below W.heap.size W W') : EnvD w W' k i o := by
  have l : ∀ {q x}, W.heap[q]? = some x → W'.heap[q]? = some x := fun {q x} hq => (hb.block q (Array.getElem?_eq_some_iff.1 hq).1).trans hq
  exact ⟨h.below.trans (hb.mono h.below.size), l h.v, l h.r⟩
theorem EnvD.alloc {W : World} (h : EnvD w W k i o) (b : Obj) : EnvD w (W.alloc b) k i o := h.after ((Below.refl _ _).alloc (Nat.le_refl _) _)
theorem EnvD.new (w : World) (k i o : Int) : EnvD w ((w.alloc (.cells #[.int .i64 k, .int .i64 i, .int .i64 o] 24)).alloc (.cells #[.int .i64 0, .int .i64 0, .int .i64 0] 24)) k i o := by
  have e1 := heap_alloc_new w (.cells #[.int .i64 k, .int .i64 i, .int .i64 o] 24)
  generalize hW1 : w.alloc (.cells #[.int .i64 k, .int .i64 i, .int .i64 o] 24) = W1 at *
  have s1 : W1.heap.size = w.heap.size + 1 := by rw [← hW1]; simp
  have b1 : Below w.heap.size w W1 := by rw [← hW1]; exact (Below.refl _ _).alloc (Nat.le_refl _) _
  have e2 := heap_alloc_new W1 (.cells #[.int .i64 0, .int .i64 0, .int .i64 0] 24)
  have b2 : Below W1.heap.size W1 (W1.alloc (.cells #[.int .i64 0, .int .i64 0, .int .i64 0] 24)) := (Below.refl _ _).alloc (Nat.le_refl _) _
  rw [s1] at e2; rw [s1] at b2
  exact ⟨b1.trans (b2.mono (by omega)), by rw [b2.block _ (by omega)]; exact e1, e2⟩
theorem EnvD.vv {W : World} (h : EnvD w W k i o) : W.cell? ⟨w.heap.size, 0, none⟩ = some (.int .i64 k) ∧ W.cell? ⟨w.heap.size, 1, none⟩ = some (.int .i64 i) ∧ W.cell? ⟨w.heap.size, 2, none⟩ = some (.int .i64 o) :=
  ⟨Go.Joins.cell_of_block h.v 0, Go.Joins.cell_of_block h.v 1, Go.Joins.cell_of_block h.v 2⟩
theorem EnvD.rr {W : World} (h : EnvD w W k i o) : W.cell? ⟨w.heap.size + 1, 0, none⟩ = some (.int .i64 0) ∧ W.cell? ⟨w.heap.size + 1, 1, none⟩ = some (.int .i64 0) ∧ W.cell? ⟨w.heap.size + 1, 2, none⟩ = some (.int .i64 0) ∧
    W.frozen? ⟨w.heap.size + 1, 0, none⟩ = false ∧ W.frozen? ⟨w.heap.size + 1, 1, none⟩ = false ∧ W.frozen? ⟨w.heap.size + 1, 2, none⟩ = false :=
  ⟨Go.Joins.cell_of_block h.r 0, Go.Joins.cell_of_block h.r 1, Go.Joins.cell_of_block h.r 2, Go.Joins.unfrozen_of_block h.r 0, Go.Joins.unfrozen_of_block h.r 1, Go.Joins.unfrozen_of_block h.r 2⟩
theorem EnvD.stored {W : World} (h : EnvD w W k i o) (a b c : Value) : Below w.heap.size w (((W.setCell ⟨w.heap.size + 1, 0, none⟩ a).setCell ⟨w.heap.size + 1, 1, none⟩ b).setCell ⟨w.heap.size + 1, 2, none⟩ c) :=
  ((h.below.setCell (Nat.le_succ _) _).setCell (Nat.le_succ _) _).setCell (Nat.le_succ _) _
end
def PtrD (w : World) (k i o : Int) (x : ByteArray) (p f : Bool) : Prop := ∀ W, EnvD w W k i o → Calls Tryd.prog 42 #[.string x] W fun e w' => e = .returned (.tuple #[.bool p, .bool f]) ∧ EnvD w w' k i o
def LookD (w : World) (s : ByteArray) (k i o : Int) (f : FuncId) (L : Int) : Prop := ∀ W g c, EnvD w W k i o → Row1 W g k i o → Calls Tryd.prog f #[.string s, .slice (some ⟨g, 0, none⟩) 1 c] W fun e w' => e = .returned (.int .i64 L) ∧ EnvD w w' k i o
def BitD (x : ByteArray) (m : Nat) : Prop := ∀ W, Calls Tryd.prog 43 #[.string x] W fun e w' => e = .returned (.int .i64 m) ∧ w' = W
end Go.Proofs.YtejhphnlickjlaaDoor.ty
