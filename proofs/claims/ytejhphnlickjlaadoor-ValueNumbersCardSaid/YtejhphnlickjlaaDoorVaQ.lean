/-
  The contract of Conv of package value. Condition: the table of keywords stands in memory.
-/
import Derived.Test.YtejhphnlickjlaaDoorVaP
import Derived.Test.YtejhphnlickjlaaDoorReg
namespace Go.Proofs.YtejhphnlickjlaaDoor.ty
open Go.ChangeShapes Go.WideShapes Go.RowKit
open M T W
set_option linter.unusedVariables false
/-- the variables of Conv: the value, the result, both sorts -/
structure EnvC (w W : World) (s t : ByteArray) (k i o : Int) : Prop where
  below : Below w.heap.size w W
  v : W.heap[w.heap.size]? = some (.cells #[.int .i64 k, .int .i64 i, .int .i64 o] 24 (0, 0))
  r : W.heap[w.heap.size + 1]? = some (.cells #[.int .i64 0, .int .i64 0, .int .i64 0] 24 (0, 0))
  a : W.heap[w.heap.size + 1 + 1]? = some (.cells #[.string s] 72 (0, 0))
  b : W.heap[w.heap.size + 1 + 1 + 1]? = some (.cells #[.string t] 72 (0, 0))
section
variable {s t : ByteArray} {w : World} {wa wb pa pb ca cb : Bool} {k i o L x : Int}
theorem EnvC.after {W W' : World} (h : EnvC w W s t k i o) (hb : Below W.heap.size W W') : EnvC w W' s t k i o := by
  have l : ∀ {q x}, W.heap[q]? = some x → W'.heap[q]? = some x := fun {q x} hq => (hb.block q (Array.getElem?_eq_some_iff.1 hq).1).trans hq
  have hs : w.heap.size ≤ W.heap.size := h.below.size
  exact ⟨h.below.trans (hb.mono hs), l h.v, l h.r, l h.a, l h.b⟩
theorem EnvC.drew {W : World} (h : EnvC w W s t k i o) : EnvC w W.drew s t k i o := ⟨h.below.drew, h.v, h.r, h.a, h.b⟩
theorem EnvC.alloc {W : World} (h : EnvC w W s t k i o) (b : Obj) : EnvC w (W.alloc b) s t k i o := h.after ((Below.refl _ _).alloc (Nat.le_refl _) _)
theorem EnvC.new (w : World) (s t : ByteArray) (k i o : Int) : EnvC w ((((w.alloc (.cells #[.int .i64 k, .int .i64 i, .int .i64 o] 24)).alloc (.cells #[.int .i64 0, .int .i64 0, .int .i64 0] 24)).alloc (.cells #[.string s] 72)).alloc (.cells #[.string t] 72)) s t k i o := by
  have e1 := heap_alloc_new w (.cells #[.int .i64 k, .int .i64 i, .int .i64 o] 24)
  generalize hW1 : w.alloc (.cells #[.int .i64 k, .int .i64 i, .int .i64 o] 24) = W1 at *
  have s1 : W1.heap.size = w.heap.size + 1 := by rw [← hW1]; simp
  have b1 : Below w.heap.size w W1 := by rw [← hW1]; exact (Below.refl _ _).alloc (Nat.le_refl _) _
  have e2 := heap_alloc_new W1 (.cells #[.int .i64 0, .int .i64 0, .int .i64 0] 24)
  have b2 : Below W1.heap.size W1 (W1.alloc (.cells #[.int .i64 0, .int .i64 0, .int .i64 0] 24)) := (Below.refl _ _).alloc (Nat.le_refl _) _
  generalize hW2 : W1.alloc (.cells #[.int .i64 0, .int .i64 0, .int .i64 0] 24) = W2 at *
  have s2 : W2.heap.size = w.heap.size + 1 + 1 := by rw [← hW2]; simp [s1]
  have e3 := heap_alloc_new W2 (.cells #[.string s] 72)
  have b3 : Below W2.heap.size W2 (W2.alloc (.cells #[.string s] 72)) := (Below.refl _ _).alloc (Nat.le_refl _) _
  generalize hW3 : W2.alloc (.cells #[.string s] 72) = W3 at *
  have s3 : W3.heap.size = w.heap.size + 1 + 1 + 1 := by rw [← hW3]; simp [s2]
  have e4 := heap_alloc_new W3 (.cells #[.string t] 72)
  have b4 : Below W3.heap.size W3 (W3.alloc (.cells #[.string t] 72)) := (Below.refl _ _).alloc (Nat.le_refl _) _
  generalize hW4 : W3.alloc (.cells #[.string t] 72) = W4 at *
  rw [s1] at e2; rw [s2] at e3; rw [s3] at e4; rw [s1] at b2; rw [s2] at b3; rw [s3] at b4
  refine ⟨((b1.trans (b2.mono (by omega))).trans (b3.mono (by omega))).trans (b4.mono (by omega)), ?_, ?_, ?_, e4⟩
  · rw [b4.block _ (by omega), b3.block _ (by omega), b2.block _ (by omega)]; exact e1
  · rw [b4.block _ (by omega), b3.block _ (by omega)]; exact e2
  · rw [b4.block _ (by omega)]; exact e3
theorem EnvC.ab {W : World} (h : EnvC w W s t k i o) : W.cell? ⟨w.heap.size + 1 + 1, 0, none⟩ = some (.string s) ∧ W.cell? ⟨w.heap.size + 1 + 1 + 1, 0, none⟩ = some (.string t) :=
  ⟨Go.Joins.cell_of_block h.a 0, Go.Joins.cell_of_block h.b 0⟩
theorem EnvC.vv {W : World} (h : EnvC w W s t k i o) : W.cell? ⟨w.heap.size, 0, none⟩ = some (.int .i64 k) ∧ W.cell? ⟨w.heap.size, 1, none⟩ = some (.int .i64 i) ∧ W.cell? ⟨w.heap.size, 2, none⟩ = some (.int .i64 o) :=
  ⟨Go.Joins.cell_of_block h.v 0, Go.Joins.cell_of_block h.v 1, Go.Joins.cell_of_block h.v 2⟩
theorem EnvC.rr {W : World} (h : EnvC w W s t k i o) : W.cell? ⟨w.heap.size + 1, 0, none⟩ = some (.int .i64 0) ∧ W.cell? ⟨w.heap.size + 1, 1, none⟩ = some (.int .i64 0) ∧ W.cell? ⟨w.heap.size + 1, 2, none⟩ = some (.int .i64 0) ∧
    W.frozen? ⟨w.heap.size + 1, 0, none⟩ = false ∧ W.frozen? ⟨w.heap.size + 1, 1, none⟩ = false ∧ W.frozen? ⟨w.heap.size + 1, 2, none⟩ = false :=
  ⟨Go.Joins.cell_of_block h.r 0, Go.Joins.cell_of_block h.r 1, Go.Joins.cell_of_block h.r 2, Go.Joins.unfrozen_of_block h.r 0, Go.Joins.unfrozen_of_block h.r 1, Go.Joins.unfrozen_of_block h.r 2⟩
theorem EnvC.stored {W : World} (h : EnvC w W s t k i o) (a b c : Value) : Below w.heap.size w (((W.setCell ⟨w.heap.size + 1, 0, none⟩ a).setCell ⟨w.heap.size + 1, 1, none⟩ b).setCell ⟨w.heap.size + 1, 2, none⟩ c) :=
  ((h.below.setCell (Nat.le_succ _) _).setCell (Nat.le_succ _) _).setCell (Nat.le_succ _) _
def SortC (w : World) (s t : ByteArray) (k i o : Int) (f : FuncId) (x : ByteArray) (b : Bool) : Prop := ∀ W, EnvC w W s t k i o → Calls Tryd.prog f #[.agg #[.string x]] W fun e w' => e = .returned (.bool b) ∧ EnvC w w' s t k i o
theorem SortC.get {f : FuncId} {x : ByteArray} {b : Bool} (h : SortC w s t k i o f x b) {W : World} (hW : EnvC w W s t k i o) : Calls Tryd.prog f #[.agg #[.string x]] W fun e w' => e = .returned (.bool b) ∧ EnvC w w' s t k i o := h W hW
def LookC (w : World) (s t : ByteArray) (k i o : Int) (L : Int) : Prop := ∀ W g c, EnvC w W s t k i o → Row1 W g k i o → Calls Tryd.prog 48 #[.string s, .slice (some ⟨g, 0, none⟩) 1 c] W fun e w' => e = .returned (.int .i64 L) ∧ EnvC w w' s t k i o
end
end Go.Proofs.YtejhphnlickjlaaDoor.ty
