/-
  The ways of Same of package block. Condition: a store stands in memory.
-/
import Derived.Test.YtejhphnlickjlaaDoorBlF
import Derived.Test.YtejhphnlickjlaaDoorBlL
import Derived.Test.YtejhphnlickjlaaDoorBlC
import Derived.Deep.RegionWith
set_option linter.unusedVariables false
set_option linter.unusedSimpArgs false
namespace Go.Proofs.YtejhphnlickjlaaDoor.bl
open Go.RowKit
open M ty
set_option linter.unusedVariables false
/-- two values' variables, and one of two sizes -/
structure EnvS (w W : World) (a b c a2 b2 c2 : Int) (Z : Nat) (s0 s1 : Int) : Prop where
  q : EnvQ w W a b c a2 b2 c2
  hz : w.heap.size + 1 < Z
  z : W.heap[Z]? = some (.cells #[.int .i64 s0, .int .i64 s1] 112 (0, 0))
section
variable {w W W' : World} {a b c a2 b2 c2 : Int} {Z : Nat} {s0 s1 : Int}
theorem EnvS.after (h : EnvS w W a b c a2 b2 c2 Z s0 s1) (hb : Below W.heap.size W W') : EnvS w W' a b c a2 b2 c2 Z s0 s1 := ⟨h.q.after hb, h.hz, (hb.block _ (Array.getElem?_eq_some_iff.1 h.z).1).trans h.z⟩
theorem EnvS.alloc (h : EnvS w W a b c a2 b2 c2 Z s0 s1) (o : Obj) : EnvS w (W.alloc o) a b c a2 b2 c2 Z s0 s1 := h.after ((Below.refl _ _).alloc (Nat.le_refl _) _)
theorem EnvS.new (h : EnvQ w W a b c a2 b2 c2) : EnvS w (W.alloc (.cells #[.int .i64 0, .int .i64 0] 112)) a b c a2 b2 c2 W.heap.size 0 0 := ⟨h.alloc _, (Array.getElem?_eq_some_iff.1 h.q).1, heap_alloc_new W _⟩
theorem EnvS.cells (h : EnvS w W a b c a2 b2 c2 Z s0 s1) : W.cell? ⟨Z, 0, none⟩ = some (.int .i64 s0) ∧ W.cell? ⟨Z, 1, none⟩ = some (.int .i64 s1) ∧ W.frozen? ⟨Z, 0, none⟩ = false ∧ W.frozen? ⟨Z, 1, none⟩ = false :=
  ⟨Go.Joins.cell_of_block h.z 0, Go.Joins.cell_of_block h.z 1, Go.Joins.unfrozen_of_block h.z 0, Go.Joins.unfrozen_of_block h.z 1⟩
theorem envQ_set (h : EnvQ w W a b c a2 b2 c2) {p : Nat} (hp : w.heap.size + 1 < p) (r : Nat) (v : Value) : EnvQ w (W.setCell ⟨p, r, none⟩ v) a b c a2 b2 c2 :=
  ⟨h.below.setCell (by show w.heap.size ≤ p; omega) _, (heap_set_other _ (by omega)).trans h.p, (heap_set_other _ (by omega)).trans h.q⟩
theorem EnvS.set0 (h : EnvS w W a b c a2 b2 c2 Z s0 s1) (v : Int) : EnvS w (W.setCell ⟨Z, 0, none⟩ (.int .i64 v)) a b c a2 b2 c2 Z v s1 := ⟨envQ_set h.q h.hz _ _, h.hz, by have := heap_set h.z (o := 0) (.int .i64 v); simpa using this⟩
theorem EnvS.set1 (h : EnvS w W a b c a2 b2 c2 Z s0 s1) (v : Int) : EnvS w (W.setCell ⟨Z, 1, none⟩ (.int .i64 v)) a b c a2 b2 c2 Z s0 v := ⟨envQ_set h.q h.hz _ _, h.hz, by have := heap_set h.z (o := 1) (.int .i64 v); simpa using this⟩
end
def FixA (a b c : Int) (f : Bool) : Prop := ∀ W, Calls Tryd.prog 69 #[.agg #[.int .i64 a, .int .i64 b, .int .i64 c]] W fun e w' => e = .returned (.bool f) ∧ Below W.heap.size W w'
theorem box_after {W W' : World} {x : Obj} (h : Below (W.alloc x).heap.size (W.alloc x) W') : W'.heap[W.heap.size]? = some x := (h.block _ (by simp)).trans (heap_alloc_new W x)
def ErrS (w : World) (g : Nat) (k i o k2 i2 o2 a b c E : Int) : Prop := ∀ Z s0 s1 W, EnvS w W k i o k2 i2 o2 Z s0 s1 → Calls Tryd.prog 59 #[.pointer (some ⟨g, 0, none⟩), .agg #[.int .i64 a, .int .i64 b, .int .i64 c], .int .i64 0] W fun e w' => (∃ P S, e = .returned (.tuple #[P, S, .int .i64 E])) ∧ EnvS w w' k i o k2 i2 o2 Z s0 s1
def SeeS (w : World) (g : Nat) (k i o k2 i2 o2 a b c : Int) (p y m : Nat) : Prop := ∀ Z s0 s1 W, EnvS w W k i o k2 i2 o2 Z s0 s1 → Calls Tryd.prog 59 #[.pointer (some ⟨g, 0, none⟩), .agg #[.int .i64 a, .int .i64 b, .int .i64 c], .int .i64 0] W fun e w' => (∃ S, e = .returned (.tuple #[.pointer (some ⟨p, 0, none⟩), S, .int .i64 0])) ∧ EnvS w w' k i o k2 i2 o2 Z s0 s1 ∧ w'.cell? ⟨p, 2, none⟩ = some (.slice (some ⟨y, 0, none⟩) m m)
def KindS (w : World) (g : Nat) (k i o k2 i2 o2 b : Int) (p : Nat) (kd : Int) : Prop := ∀ Z s0 s1 W, EnvS w W k i o k2 i2 o2 Z s0 s1 → Calls Tryd.prog 67 #[.pointer (some ⟨g, 0, none⟩), .int .i64 b] W fun e w' => e = .returned (.pointer (some ⟨p, 0, none⟩)) ∧ w' = W ∧ W.cell? ⟨p, 0, none⟩ = some (.int .i64 kd)
section
variable {w : World} {g : Nat} {k i o k2 i2 o2 E kp kq : Int} {pp yp mp pq yq mq : Nat}
set_option maxRecDepth 20000 in
set_option maxHeartbeats 3200000 in
theorem same_a1 (HFP : Hid (FixA k i o true)) (HFQ : Hid (FixA k2 i2 o2 true)) (hk : (k == k2) = false) : Calls Tryd.prog 31 #[.pointer (some ⟨g, 0, none⟩), .agg #[.int .i64 k, .int .i64 i, .int .i64 o], .agg #[.int .i64 k2, .int .i64 i2, .int .i64 o2]] w fun e w' => e = .returned (.tuple #[.bool false, .int .i64 0]) ∧ Below w.heap.size w w' := by
  go_enter Tryd.func31, Tryd.ntmps31
  go_wp2_with (first
    | (go_at_call_of 69 o; refine (HFP.out _).mono ?_; rintro e w1 ⟨rfl, hb⟩; have h1 := (EnvQ.new w k i o k2 i2 o2).after hb; obtain ⟨c0, c1, c2, c3, c4, c5⟩ := h1.cells; have H := Lib.hid h1; clear h1 hb)
    | (go_at_call_of 69 o2; refine (HFQ.out _).mono ?_; rintro e w1 ⟨rfl, hb⟩; have h1 := H.out.after hb; (try clear c0 c1 c2 c3 c4 c5); obtain ⟨c0, c1, c2, c3, c4, c5⟩ := h1.cells; have H := Lib.hid h1; clear h1 hb))
  go_ret2
  exact ⟨rfl, H.out.below⟩
set_option maxRecDepth 20000 in
set_option maxHeartbeats 3200000 in
theorem same_a2 (HFP : Hid (FixA k i o true)) (HFQ : Hid (FixA k2 i2 o2 true)) (hk : (k == k2) = true) (h3 : (k == 3) = true) : Calls Tryd.prog 31 #[.pointer (some ⟨g, 0, none⟩), .agg #[.int .i64 k, .int .i64 i, .int .i64 o], .agg #[.int .i64 k2, .int .i64 i2, .int .i64 o2]] w fun e w' => e = .returned (.tuple #[.bool true, .int .i64 0]) ∧ Below w.heap.size w w' := by
  go_enter Tryd.func31, Tryd.ntmps31
  go_wp2_with (first
    | (go_at_call_of 69 o; refine (HFP.out _).mono ?_; rintro e w1 ⟨rfl, hb⟩; have h1 := (EnvQ.new w k i o k2 i2 o2).after hb; obtain ⟨c0, c1, c2, c3, c4, c5⟩ := h1.cells; have H := Lib.hid h1; clear h1 hb)
    | (go_at_call_of 69 o2; refine (HFQ.out _).mono ?_; rintro e w1 ⟨rfl, hb⟩; have h1 := H.out.after hb; (try clear c0 c1 c2 c3 c4 c5); obtain ⟨c0, c1, c2, c3, c4, c5⟩ := h1.cells; have H := Lib.hid h1; clear h1 hb))
  go_ret2
  exact ⟨rfl, H.out.below⟩
set_option maxRecDepth 20000 in
set_option maxHeartbeats 3200000 in
theorem same_a3 (HFP : Hid (FixA k i o true)) (HFQ : Hid (FixA k2 i2 o2 true)) (hk : (k == k2) = true) (h3 : (k == 3) = false) : Calls Tryd.prog 31 #[.pointer (some ⟨g, 0, none⟩), .agg #[.int .i64 k, .int .i64 i, .int .i64 o], .agg #[.int .i64 k2, .int .i64 i2, .int .i64 o2]] w fun e w' => e = .returned (.tuple #[.bool (i == i2), .int .i64 0]) ∧ Below w.heap.size w w' := by
  go_enter Tryd.func31, Tryd.ntmps31
  go_wp2_with (first
    | (go_at_call_of 69 o; refine (HFP.out _).mono ?_; rintro e w1 ⟨rfl, hb⟩; have h1 := (EnvQ.new w k i o k2 i2 o2).after hb; obtain ⟨c0, c1, c2, c3, c4, c5⟩ := h1.cells; have H := Lib.hid h1; clear h1 hb)
    | (go_at_call_of 69 o2; refine (HFQ.out _).mono ?_; rintro e w1 ⟨rfl, hb⟩; have h1 := H.out.after hb; (try clear c0 c1 c2 c3 c4 c5); obtain ⟨c0, c1, c2, c3, c4, c5⟩ := h1.cells; have H := Lib.hid h1; clear h1 hb))
  go_ret2
  exact ⟨rfl, H.out.below⟩
set_option maxRecDepth 20000 in
set_option maxHeartbeats 3200000 in
theorem same_b1 (HFP : Hid (FixA k i o true)) (HFQ : Hid (FixA k2 i2 o2 false)) (HRQ : Hid (ErrS w g k i o k2 i2 o2 k2 i2 o2 E)) (hE : (E != 0) = true) : Calls Tryd.prog 31 #[.pointer (some ⟨g, 0, none⟩), .agg #[.int .i64 k, .int .i64 i, .int .i64 o], .agg #[.int .i64 k2, .int .i64 i2, .int .i64 o2]] w fun e w' => e = .returned (.tuple #[.bool false, .int .i64 E]) ∧ Below w.heap.size w w' := by
  have x0 := idx0 k i o k2 i2 o2
  have x1 := idx1 k i o k2 i2 o2
  go_enter Tryd.func31, Tryd.ntmps31
  go_wp2_with (first
    | (go_at_call_of 69 o; refine (HFP.out _).mono ?_; rintro e w1 ⟨rfl, hb⟩; have h1 := (EnvQ.new w k i o k2 i2 o2).after hb; obtain ⟨c0, c1, c2, c3, c4, c5⟩ := h1.cells; have H := Lib.hid h1; clear h1 hb)
    | (go_at_call_of 69 o2; refine (HFQ.out _).mono ?_; rintro e w2 ⟨rfl, hb⟩; have h1 := H.out.after hb; (try clear c0 c1 c2 c3 c4 c5); obtain ⟨c0, c1, c2, c3, c4, c5⟩ := h1.cells; obtain ⟨d0, d1, d2, d3, d4, d5⟩ := (h1.alloc (.cells #[.int .i64 0, .int .i64 0] 112)).cells; have H := Lib.hid h1; clear h1 hb))
  refine wp_loop_rounds 3 ?_
  rw [rounds_succ]
  go_wp2_with (first
    | (go_at_call_of 69 o; refine (HFP.out _).mono ?_; rintro e w1 ⟨rfl, hb⟩; have h1 := EnvS.after ((EnvS.new H.out).alloc _) hb; have hx := box_after hb; (try clear c0 c1 c2 c3 c4 c5); (try clear z0 z1 f0 f1); (try clear d0 d1 d2 d3 d4 d5); (try clear y0 y1 y2); have y0 := Go.Joins.cell_of_block hx 0; have y1 := Go.Joins.cell_of_block hx 1; have y2 := Go.Joins.cell_of_block hx 2; simp only [List.getElem?_toArray, List.getElem?_cons_zero, List.getElem?_cons_succ, World.size_alloc] at y0 y1 y2; clear hx; obtain ⟨c0, c1, c2, c3, c4, c5⟩ := h1.q.cells; obtain ⟨z0, z1, f0, f1⟩ := h1.cells; have H := Lib.hid h1; clear h1 hb))
  rw [rounds_succ]
  go_wp2_with (first
    | (go_at_call_of 69 o2; refine (HFQ.out _).mono ?_; rintro e w1 ⟨rfl, hb⟩; have h1 := EnvS.after (H.out.alloc _) hb; have hx := box_after hb; (try clear c0 c1 c2 c3 c4 c5); (try clear z0 z1 f0 f1); (try clear d0 d1 d2 d3 d4 d5); (try clear y0 y1 y2); have y0 := Go.Joins.cell_of_block hx 0; have y1 := Go.Joins.cell_of_block hx 1; have y2 := Go.Joins.cell_of_block hx 2; simp only [List.getElem?_toArray, List.getElem?_cons_zero, List.getElem?_cons_succ, World.size_alloc] at y0 y1 y2; clear hx; obtain ⟨c0, c1, c2, c3, c4, c5⟩ := h1.q.cells; obtain ⟨z0, z1, f0, f1⟩ := h1.cells; have H := Lib.hid h1; clear h1 hb)
    | (go_at_call 59; refine (HRQ.out _ _ _ _ H.out).mono ?_; rintro e w1 ⟨⟨P, S, rfl⟩, h1⟩; have H := Lib.hid h1; clear h1))
  go_ret2
  exact ⟨rfl, H.out.q.below⟩
set_option maxRecDepth 20000 in
set_option maxHeartbeats 3200000 in
theorem same_b2 (HFP : Hid (FixA k i o true)) (HFQ : Hid (FixA k2 i2 o2 false)) (HRQ : Hid (SeeS w g k i o k2 i2 o2 k2 i2 o2 pq yq mq)) : Calls Tryd.prog 31 #[.pointer (some ⟨g, 0, none⟩), .agg #[.int .i64 k, .int .i64 i, .int .i64 o], .agg #[.int .i64 k2, .int .i64 i2, .int .i64 o2]] w fun e w' => e = .returned (.tuple #[.bool false, .int .i64 0]) ∧ Below w.heap.size w w' := by
  have x0 := idx0 k i o k2 i2 o2
  have x1 := idx1 k i o k2 i2 o2
  go_enter Tryd.func31, Tryd.ntmps31
  go_wp2_with (first
    | (go_at_call_of 69 o; refine (HFP.out _).mono ?_; rintro e w1 ⟨rfl, hb⟩; have h1 := (EnvQ.new w k i o k2 i2 o2).after hb; obtain ⟨c0, c1, c2, c3, c4, c5⟩ := h1.cells; have H := Lib.hid h1; clear h1 hb)
    | (go_at_call_of 69 o2; refine (HFQ.out _).mono ?_; rintro e w2 ⟨rfl, hb⟩; have h1 := H.out.after hb; (try clear c0 c1 c2 c3 c4 c5); obtain ⟨c0, c1, c2, c3, c4, c5⟩ := h1.cells; obtain ⟨d0, d1, d2, d3, d4, d5⟩ := (h1.alloc (.cells #[.int .i64 0, .int .i64 0] 112)).cells; have H := Lib.hid h1; clear h1 hb))
  refine wp_loop_rounds 3 ?_
  rw [rounds_succ]
  go_wp2_with (first
    | (go_at_call_of 69 o; refine (HFP.out _).mono ?_; rintro e w1 ⟨rfl, hb⟩; have h1 := EnvS.after ((EnvS.new H.out).alloc _) hb; have hx := box_after hb; (try clear c0 c1 c2 c3 c4 c5); (try clear z0 z1 f0 f1); (try clear d0 d1 d2 d3 d4 d5); (try clear y0 y1 y2); have y0 := Go.Joins.cell_of_block hx 0; have y1 := Go.Joins.cell_of_block hx 1; have y2 := Go.Joins.cell_of_block hx 2; simp only [List.getElem?_toArray, List.getElem?_cons_zero, List.getElem?_cons_succ, World.size_alloc] at y0 y1 y2; clear hx; obtain ⟨c0, c1, c2, c3, c4, c5⟩ := h1.q.cells; obtain ⟨z0, z1, f0, f1⟩ := h1.cells; have H := Lib.hid h1; clear h1 hb))
  rw [rounds_succ]
  go_wp2_with (first
    | (go_at_call_of 69 o2; refine (HFQ.out _).mono ?_; rintro e w1 ⟨rfl, hb⟩; have h1 := EnvS.after (H.out.alloc _) hb; have hx := box_after hb; (try clear c0 c1 c2 c3 c4 c5); (try clear z0 z1 f0 f1); (try clear d0 d1 d2 d3 d4 d5); (try clear y0 y1 y2); have y0 := Go.Joins.cell_of_block hx 0; have y1 := Go.Joins.cell_of_block hx 1; have y2 := Go.Joins.cell_of_block hx 2; simp only [List.getElem?_toArray, List.getElem?_cons_zero, List.getElem?_cons_succ, World.size_alloc] at y0 y1 y2; clear hx; obtain ⟨c0, c1, c2, c3, c4, c5⟩ := h1.q.cells; obtain ⟨z0, z1, f0, f1⟩ := h1.cells; have H := Lib.hid h1; clear h1 hb)
    | (go_at_call 59; refine (HRQ.out _ _ _ _ H.out).mono ?_; rintro e w1 ⟨⟨S, rfl⟩, h1, q2⟩; (try clear y0 y1 y2); (try clear c0 c1 c2 c3 c4 c5); (try clear z0 z1 f0 f1); (try clear d0 d1 d2 d3 d4 d5); obtain ⟨c0, c1, c2, c3, c4, c5⟩ := h1.q.cells; obtain ⟨z0, z1, f0, f1⟩ := h1.cells; have H := Lib.hid h1; clear h1))
  have H := Lib.hid (H.out.set1 mq)
  generalize w1.setCell ⟨w2.heap.size, 1, none⟩ (.int .i64 mq) = W3 at *
  clear c0 c1 c2 c3 c4 c5 z0 z1 f0 f1 q2
  obtain ⟨c0, c1, c2, c3, c4, c5⟩ := H.out.q.cells
  obtain ⟨z0, z1, f0, f1⟩ := H.out.cells
  rw [rounds_succ]
  go_wp2_with (first
    | (go_at_call_of 69 o; refine (HFP.out _).mono ?_; rintro e w1 ⟨rfl, hb⟩; have h1 := H.out.after hb; (try clear c0 c1 c2 c3 c4 c5); (try clear z0 z1 f0 f1); obtain ⟨c0, c1, c2, c3, c4, c5⟩ := h1.q.cells; obtain ⟨z0, z1, f0, f1⟩ := h1.cells; have H := Lib.hid h1; clear h1 hb))
  go_ret2
  exact ⟨rfl, H.out.q.below⟩
set_option maxRecDepth 20000 in
set_option maxHeartbeats 3200000 in
theorem same_c1 (HFP : Hid (FixA k i o false)) (HFQ : Hid (FixA k2 i2 o2 true)) (HRP : Hid (ErrS w g k i o k2 i2 o2 k i o E)) (hE : (E != 0) = true) : Calls Tryd.prog 31 #[.pointer (some ⟨g, 0, none⟩), .agg #[.int .i64 k, .int .i64 i, .int .i64 o], .agg #[.int .i64 k2, .int .i64 i2, .int .i64 o2]] w fun e w' => e = .returned (.tuple #[.bool false, .int .i64 E]) ∧ Below w.heap.size w w' := by
  have x0 := idx0 k i o k2 i2 o2
  have x1 := idx1 k i o k2 i2 o2
  go_enter Tryd.func31, Tryd.ntmps31
  go_wp2_with (first
    | (go_at_call_of 69 o; refine (HFP.out _).mono ?_; rintro e w2 ⟨rfl, hb⟩; have h1 := (EnvQ.new w k i o k2 i2 o2).after hb; obtain ⟨c0, c1, c2, c3, c4, c5⟩ := h1.cells; obtain ⟨d0, d1, d2, d3, d4, d5⟩ := (h1.alloc (.cells #[.int .i64 0, .int .i64 0] 112)).cells; have H := Lib.hid h1; clear h1 hb))
  refine wp_loop_rounds 3 ?_
  rw [rounds_succ]
  go_wp2_with (first
    | (go_at_call_of 69 o; refine (HFP.out _).mono ?_; rintro e w1 ⟨rfl, hb⟩; have h1 := EnvS.after ((EnvS.new H.out).alloc _) hb; have hx := box_after hb; (try clear c0 c1 c2 c3 c4 c5); (try clear z0 z1 f0 f1); (try clear d0 d1 d2 d3 d4 d5); (try clear y0 y1 y2); have y0 := Go.Joins.cell_of_block hx 0; have y1 := Go.Joins.cell_of_block hx 1; have y2 := Go.Joins.cell_of_block hx 2; simp only [List.getElem?_toArray, List.getElem?_cons_zero, List.getElem?_cons_succ, World.size_alloc] at y0 y1 y2; clear hx; obtain ⟨c0, c1, c2, c3, c4, c5⟩ := h1.q.cells; obtain ⟨z0, z1, f0, f1⟩ := h1.cells; have H := Lib.hid h1; clear h1 hb)
    | (go_at_call 59; refine (HRP.out _ _ _ _ H.out).mono ?_; rintro e w1 ⟨⟨P, S, rfl⟩, h1⟩; have H := Lib.hid h1; clear h1))
  go_ret2
  exact ⟨rfl, H.out.q.below⟩
set_option maxRecDepth 20000 in
set_option maxHeartbeats 3200000 in
theorem same_c2 (HFP : Hid (FixA k i o false)) (HFQ : Hid (FixA k2 i2 o2 true)) (HRP : Hid (SeeS w g k i o k2 i2 o2 k i o pp yp mp)) : Calls Tryd.prog 31 #[.pointer (some ⟨g, 0, none⟩), .agg #[.int .i64 k, .int .i64 i, .int .i64 o], .agg #[.int .i64 k2, .int .i64 i2, .int .i64 o2]] w fun e w' => e = .returned (.tuple #[.bool false, .int .i64 0]) ∧ Below w.heap.size w w' := by
  have x0 := idx0 k i o k2 i2 o2
  have x1 := idx1 k i o k2 i2 o2
  go_enter Tryd.func31, Tryd.ntmps31
  go_wp2_with (first
    | (go_at_call_of 69 o; refine (HFP.out _).mono ?_; rintro e w2 ⟨rfl, hb⟩; have h1 := (EnvQ.new w k i o k2 i2 o2).after hb; obtain ⟨c0, c1, c2, c3, c4, c5⟩ := h1.cells; obtain ⟨d0, d1, d2, d3, d4, d5⟩ := (h1.alloc (.cells #[.int .i64 0, .int .i64 0] 112)).cells; have H := Lib.hid h1; clear h1 hb))
  refine wp_loop_rounds 3 ?_
  rw [rounds_succ]
  go_wp2_with (first
    | (go_at_call_of 69 o; refine (HFP.out _).mono ?_; rintro e w1 ⟨rfl, hb⟩; have h1 := EnvS.after ((EnvS.new H.out).alloc _) hb; have hx := box_after hb; (try clear c0 c1 c2 c3 c4 c5); (try clear z0 z1 f0 f1); (try clear d0 d1 d2 d3 d4 d5); (try clear y0 y1 y2); have y0 := Go.Joins.cell_of_block hx 0; have y1 := Go.Joins.cell_of_block hx 1; have y2 := Go.Joins.cell_of_block hx 2; simp only [List.getElem?_toArray, List.getElem?_cons_zero, List.getElem?_cons_succ, World.size_alloc] at y0 y1 y2; clear hx; obtain ⟨c0, c1, c2, c3, c4, c5⟩ := h1.q.cells; obtain ⟨z0, z1, f0, f1⟩ := h1.cells; have H := Lib.hid h1; clear h1 hb)
    | (go_at_call 59; refine (HRP.out _ _ _ _ H.out).mono ?_; rintro e w1 ⟨⟨S, rfl⟩, h1, q2⟩; (try clear y0 y1 y2); (try clear c0 c1 c2 c3 c4 c5); (try clear z0 z1 f0 f1); (try clear d0 d1 d2 d3 d4 d5); obtain ⟨c0, c1, c2, c3, c4, c5⟩ := h1.q.cells; obtain ⟨z0, z1, f0, f1⟩ := h1.cells; have H := Lib.hid h1; clear h1))
  have H := Lib.hid (H.out.set0 mp)
  generalize w1.setCell ⟨w2.heap.size, 0, none⟩ (.int .i64 mp) = W3 at *
  clear c0 c1 c2 c3 c4 c5 z0 z1 f0 f1 q2
  obtain ⟨c0, c1, c2, c3, c4, c5⟩ := H.out.q.cells
  obtain ⟨z0, z1, f0, f1⟩ := H.out.cells
  rw [rounds_succ]
  go_wp2_with (first
    | (go_at_call_of 69 o2; refine (HFQ.out _).mono ?_; rintro e w1 ⟨rfl, hb⟩; have h1 := EnvS.after (H.out.alloc _) hb; have hx := box_after hb; (try clear c0 c1 c2 c3 c4 c5); (try clear z0 z1 f0 f1); (try clear d0 d1 d2 d3 d4 d5); (try clear y0 y1 y2); have y0 := Go.Joins.cell_of_block hx 0; have y1 := Go.Joins.cell_of_block hx 1; have y2 := Go.Joins.cell_of_block hx 2; simp only [List.getElem?_toArray, List.getElem?_cons_zero, List.getElem?_cons_succ, World.size_alloc] at y0 y1 y2; clear hx; obtain ⟨c0, c1, c2, c3, c4, c5⟩ := h1.q.cells; obtain ⟨z0, z1, f0, f1⟩ := h1.cells; have H := Lib.hid h1; clear h1 hb))
  rw [rounds_succ]
  go_wp2_with (first
    | (go_at_call_of 69 o; refine (HFP.out _).mono ?_; rintro e w1 ⟨rfl, hb⟩; have h1 := H.out.after hb; (try clear c0 c1 c2 c3 c4 c5); (try clear z0 z1 f0 f1); obtain ⟨c0, c1, c2, c3, c4, c5⟩ := h1.q.cells; obtain ⟨z0, z1, f0, f1⟩ := h1.cells; have H := Lib.hid h1; clear h1 hb)
    | (go_at_call_of 69 o2; refine (HFQ.out _).mono ?_; rintro e w1 ⟨rfl, hb⟩; have h1 := H.out.after hb; (try clear c0 c1 c2 c3 c4 c5); (try clear z0 z1 f0 f1); obtain ⟨c0, c1, c2, c3, c4, c5⟩ := h1.q.cells; obtain ⟨z0, z1, f0, f1⟩ := h1.cells; have H := Lib.hid h1; clear h1 hb))
  go_ret2
  exact ⟨rfl, H.out.q.below⟩
set_option maxRecDepth 20000 in
set_option maxHeartbeats 3200000 in
theorem same_d1 (HFP : Hid (FixA k i o false)) (HFQ : Hid (FixA k2 i2 o2 false)) (HRP : Hid (ErrS w g k i o k2 i2 o2 k i o E)) (hE : (E != 0) = true) : Calls Tryd.prog 31 #[.pointer (some ⟨g, 0, none⟩), .agg #[.int .i64 k, .int .i64 i, .int .i64 o], .agg #[.int .i64 k2, .int .i64 i2, .int .i64 o2]] w fun e w' => e = .returned (.tuple #[.bool false, .int .i64 E]) ∧ Below w.heap.size w w' := by
  have x0 := idx0 k i o k2 i2 o2
  have x1 := idx1 k i o k2 i2 o2
  go_enter Tryd.func31, Tryd.ntmps31
  go_wp2_with (first
    | (go_at_call_of 69 o; refine (HFP.out _).mono ?_; rintro e w2 ⟨rfl, hb⟩; have h1 := (EnvQ.new w k i o k2 i2 o2).after hb; obtain ⟨c0, c1, c2, c3, c4, c5⟩ := h1.cells; obtain ⟨d0, d1, d2, d3, d4, d5⟩ := (h1.alloc (.cells #[.int .i64 0, .int .i64 0] 112)).cells; have H := Lib.hid h1; clear h1 hb))
  refine wp_loop_rounds 3 ?_
  rw [rounds_succ]
  go_wp2_with (first
    | (go_at_call_of 69 o; refine (HFP.out _).mono ?_; rintro e w1 ⟨rfl, hb⟩; have h1 := EnvS.after ((EnvS.new H.out).alloc _) hb; have hx := box_after hb; (try clear c0 c1 c2 c3 c4 c5); (try clear z0 z1 f0 f1); (try clear d0 d1 d2 d3 d4 d5); (try clear y0 y1 y2); have y0 := Go.Joins.cell_of_block hx 0; have y1 := Go.Joins.cell_of_block hx 1; have y2 := Go.Joins.cell_of_block hx 2; simp only [List.getElem?_toArray, List.getElem?_cons_zero, List.getElem?_cons_succ, World.size_alloc] at y0 y1 y2; clear hx; obtain ⟨c0, c1, c2, c3, c4, c5⟩ := h1.q.cells; obtain ⟨z0, z1, f0, f1⟩ := h1.cells; have H := Lib.hid h1; clear h1 hb)
    | (go_at_call 59; refine (HRP.out _ _ _ _ H.out).mono ?_; rintro e w1 ⟨⟨P, S, rfl⟩, h1⟩; have H := Lib.hid h1; clear h1))
  go_ret2
  exact ⟨rfl, H.out.q.below⟩
set_option maxRecDepth 20000 in
set_option maxHeartbeats 3200000 in
theorem same_d2 (HFP : Hid (FixA k i o false)) (HFQ : Hid (FixA k2 i2 o2 false)) (HRP : Hid (SeeS w g k i o k2 i2 o2 k i o pp yp mp)) (HRQ : Hid (ErrS w g k i o k2 i2 o2 k2 i2 o2 E)) (hE : (E != 0) = true) : Calls Tryd.prog 31 #[.pointer (some ⟨g, 0, none⟩), .agg #[.int .i64 k, .int .i64 i, .int .i64 o], .agg #[.int .i64 k2, .int .i64 i2, .int .i64 o2]] w fun e w' => e = .returned (.tuple #[.bool false, .int .i64 E]) ∧ Below w.heap.size w w' := by
  have x0 := idx0 k i o k2 i2 o2
  have x1 := idx1 k i o k2 i2 o2
  go_enter Tryd.func31, Tryd.ntmps31
  go_wp2_with (first
    | (go_at_call_of 69 o; refine (HFP.out _).mono ?_; rintro e w2 ⟨rfl, hb⟩; have h1 := (EnvQ.new w k i o k2 i2 o2).after hb; obtain ⟨c0, c1, c2, c3, c4, c5⟩ := h1.cells; obtain ⟨d0, d1, d2, d3, d4, d5⟩ := (h1.alloc (.cells #[.int .i64 0, .int .i64 0] 112)).cells; have H := Lib.hid h1; clear h1 hb))
  refine wp_loop_rounds 3 ?_
  rw [rounds_succ]
  go_wp2_with (first
    | (go_at_call_of 69 o; refine (HFP.out _).mono ?_; rintro e w1 ⟨rfl, hb⟩; have h1 := EnvS.after ((EnvS.new H.out).alloc _) hb; have hx := box_after hb; (try clear c0 c1 c2 c3 c4 c5); (try clear z0 z1 f0 f1); (try clear d0 d1 d2 d3 d4 d5); (try clear y0 y1 y2); have y0 := Go.Joins.cell_of_block hx 0; have y1 := Go.Joins.cell_of_block hx 1; have y2 := Go.Joins.cell_of_block hx 2; simp only [List.getElem?_toArray, List.getElem?_cons_zero, List.getElem?_cons_succ, World.size_alloc] at y0 y1 y2; clear hx; obtain ⟨c0, c1, c2, c3, c4, c5⟩ := h1.q.cells; obtain ⟨z0, z1, f0, f1⟩ := h1.cells; have H := Lib.hid h1; clear h1 hb)
    | (go_at_call 59; refine (HRP.out _ _ _ _ H.out).mono ?_; rintro e w1 ⟨⟨S, rfl⟩, h1, q2⟩; (try clear y0 y1 y2); (try clear c0 c1 c2 c3 c4 c5); (try clear z0 z1 f0 f1); (try clear d0 d1 d2 d3 d4 d5); obtain ⟨c0, c1, c2, c3, c4, c5⟩ := h1.q.cells; obtain ⟨z0, z1, f0, f1⟩ := h1.cells; have H := Lib.hid h1; clear h1))
  have H := Lib.hid (H.out.set0 mp)
  generalize w1.setCell ⟨w2.heap.size, 0, none⟩ (.int .i64 mp) = W3 at *
  clear c0 c1 c2 c3 c4 c5 z0 z1 f0 f1 q2
  obtain ⟨c0, c1, c2, c3, c4, c5⟩ := H.out.q.cells
  obtain ⟨z0, z1, f0, f1⟩ := H.out.cells
  rw [rounds_succ]
  go_wp2_with (first
    | (go_at_call_of 69 o2; refine (HFQ.out _).mono ?_; rintro e w1 ⟨rfl, hb⟩; have h1 := EnvS.after (H.out.alloc _) hb; have hx := box_after hb; (try clear c0 c1 c2 c3 c4 c5); (try clear z0 z1 f0 f1); (try clear d0 d1 d2 d3 d4 d5); (try clear y0 y1 y2); have y0 := Go.Joins.cell_of_block hx 0; have y1 := Go.Joins.cell_of_block hx 1; have y2 := Go.Joins.cell_of_block hx 2; simp only [List.getElem?_toArray, List.getElem?_cons_zero, List.getElem?_cons_succ, World.size_alloc] at y0 y1 y2; clear hx; obtain ⟨c0, c1, c2, c3, c4, c5⟩ := h1.q.cells; obtain ⟨z0, z1, f0, f1⟩ := h1.cells; have H := Lib.hid h1; clear h1 hb)
    | (go_at_call 59; refine (HRQ.out _ _ _ _ H.out).mono ?_; rintro e w1 ⟨⟨P, S, rfl⟩, h1⟩; have H := Lib.hid h1; clear h1))
  go_ret2
  exact ⟨rfl, H.out.q.below⟩
set_option maxRecDepth 20000 in
set_option maxHeartbeats 3200000 in
theorem same_d3 (HFP : Hid (FixA k i o false)) (HFQ : Hid (FixA k2 i2 o2 false)) (HRP : Hid (SeeS w g k i o k2 i2 o2 k i o pp yp mp)) (HRQ : Hid (SeeS w g k i o k2 i2 o2 k2 i2 o2 pq yq mq)) (hi : (i == i2) = true) : Calls Tryd.prog 31 #[.pointer (some ⟨g, 0, none⟩), .agg #[.int .i64 k, .int .i64 i, .int .i64 o], .agg #[.int .i64 k2, .int .i64 i2, .int .i64 o2]] w fun e w' => e = .returned (.tuple #[.bool (o == o2), .int .i64 0]) ∧ Below w.heap.size w w' := by
  have x0 := idx0 k i o k2 i2 o2
  have x1 := idx1 k i o k2 i2 o2
  go_enter Tryd.func31, Tryd.ntmps31
  go_wp2_with (first
    | (go_at_call_of 69 o; refine (HFP.out _).mono ?_; rintro e w2 ⟨rfl, hb⟩; have h1 := (EnvQ.new w k i o k2 i2 o2).after hb; obtain ⟨c0, c1, c2, c3, c4, c5⟩ := h1.cells; obtain ⟨d0, d1, d2, d3, d4, d5⟩ := (h1.alloc (.cells #[.int .i64 0, .int .i64 0] 112)).cells; have H := Lib.hid h1; clear h1 hb))
  refine wp_loop_rounds 3 ?_
  rw [rounds_succ]
  go_wp2_with (first
    | (go_at_call_of 69 o; refine (HFP.out _).mono ?_; rintro e w1 ⟨rfl, hb⟩; have h1 := EnvS.after ((EnvS.new H.out).alloc _) hb; have hx := box_after hb; (try clear c0 c1 c2 c3 c4 c5); (try clear z0 z1 f0 f1); (try clear d0 d1 d2 d3 d4 d5); (try clear y0 y1 y2); have y0 := Go.Joins.cell_of_block hx 0; have y1 := Go.Joins.cell_of_block hx 1; have y2 := Go.Joins.cell_of_block hx 2; simp only [List.getElem?_toArray, List.getElem?_cons_zero, List.getElem?_cons_succ, World.size_alloc] at y0 y1 y2; clear hx; obtain ⟨c0, c1, c2, c3, c4, c5⟩ := h1.q.cells; obtain ⟨z0, z1, f0, f1⟩ := h1.cells; have H := Lib.hid h1; clear h1 hb)
    | (go_at_call 59; refine (HRP.out _ _ _ _ H.out).mono ?_; rintro e w1 ⟨⟨S, rfl⟩, h1, q2⟩; (try clear y0 y1 y2); (try clear c0 c1 c2 c3 c4 c5); (try clear z0 z1 f0 f1); (try clear d0 d1 d2 d3 d4 d5); obtain ⟨c0, c1, c2, c3, c4, c5⟩ := h1.q.cells; obtain ⟨z0, z1, f0, f1⟩ := h1.cells; have H := Lib.hid h1; clear h1))
  have H := Lib.hid (H.out.set0 mp)
  generalize w1.setCell ⟨w2.heap.size, 0, none⟩ (.int .i64 mp) = W3 at *
  clear c0 c1 c2 c3 c4 c5 z0 z1 f0 f1 q2
  obtain ⟨c0, c1, c2, c3, c4, c5⟩ := H.out.q.cells
  obtain ⟨z0, z1, f0, f1⟩ := H.out.cells
  rw [rounds_succ]
  go_wp2_with (first
    | (go_at_call_of 69 o2; refine (HFQ.out _).mono ?_; rintro e w1 ⟨rfl, hb⟩; have h1 := EnvS.after (H.out.alloc _) hb; have hx := box_after hb; (try clear c0 c1 c2 c3 c4 c5); (try clear z0 z1 f0 f1); (try clear d0 d1 d2 d3 d4 d5); (try clear y0 y1 y2); have y0 := Go.Joins.cell_of_block hx 0; have y1 := Go.Joins.cell_of_block hx 1; have y2 := Go.Joins.cell_of_block hx 2; simp only [List.getElem?_toArray, List.getElem?_cons_zero, List.getElem?_cons_succ, World.size_alloc] at y0 y1 y2; clear hx; obtain ⟨c0, c1, c2, c3, c4, c5⟩ := h1.q.cells; obtain ⟨z0, z1, f0, f1⟩ := h1.cells; have H := Lib.hid h1; clear h1 hb)
    | (go_at_call 59; refine (HRQ.out _ _ _ _ H.out).mono ?_; rintro e w1 ⟨⟨S, rfl⟩, h1, q2⟩; (try clear y0 y1 y2); (try clear c0 c1 c2 c3 c4 c5); (try clear z0 z1 f0 f1); (try clear d0 d1 d2 d3 d4 d5); obtain ⟨c0, c1, c2, c3, c4, c5⟩ := h1.q.cells; obtain ⟨z0, z1, f0, f1⟩ := h1.cells; have H := Lib.hid h1; clear h1))
  have H := Lib.hid (H.out.set1 mq)
  generalize w1.setCell ⟨w2.heap.size, 1, none⟩ (.int .i64 mq) = W3 at *
  clear c0 c1 c2 c3 c4 c5 z0 z1 f0 f1 q2
  obtain ⟨c0, c1, c2, c3, c4, c5⟩ := H.out.q.cells
  obtain ⟨z0, z1, f0, f1⟩ := H.out.cells
  rw [rounds_succ]
  go_wp2_with (first
    | (go_at_call_of 69 o; refine (HFP.out _).mono ?_; rintro e w1 ⟨rfl, hb⟩; have h1 := H.out.after hb; (try clear c0 c1 c2 c3 c4 c5); (try clear z0 z1 f0 f1); obtain ⟨c0, c1, c2, c3, c4, c5⟩ := h1.q.cells; obtain ⟨z0, z1, f0, f1⟩ := h1.cells; have H := Lib.hid h1; clear h1 hb)
    | (go_at_call_of 69 o2; refine (HFQ.out _).mono ?_; rintro e w1 ⟨rfl, hb⟩; have h1 := H.out.after hb; (try clear c0 c1 c2 c3 c4 c5); (try clear z0 z1 f0 f1); obtain ⟨c0, c1, c2, c3, c4, c5⟩ := h1.q.cells; obtain ⟨z0, z1, f0, f1⟩ := h1.cells; have H := Lib.hid h1; clear h1 hb))
  go_ret2
  exact ⟨rfl, H.out.q.below⟩
set_option maxRecDepth 20000 in
set_option maxHeartbeats 3200000 in
theorem same_d4 (HFP : Hid (FixA k i o false)) (HFQ : Hid (FixA k2 i2 o2 false)) (HRP : Hid (SeeS w g k i o k2 i2 o2 k i o pp yp mp)) (HRQ : Hid (SeeS w g k i o k2 i2 o2 k2 i2 o2 pq yq mq)) (hi : (i == i2) = false) (HOP : Hid (KindS w g k i o k2 i2 o2 i pp kp)) (HOQ : Hid (KindS w g k i o k2 i2 o2 i2 pq kq)) (t1 : (kp == 1) = true) (t2 : (kq == 1) = true) : Calls Tryd.prog 31 #[.pointer (some ⟨g, 0, none⟩), .agg #[.int .i64 k, .int .i64 i, .int .i64 o], .agg #[.int .i64 k2, .int .i64 i2, .int .i64 o2]] w fun e w' => e = .returned (.tuple #[.bool false, .int .i64 146]) ∧ Below w.heap.size w w' := by
  have x0 := idx0 k i o k2 i2 o2
  have x1 := idx1 k i o k2 i2 o2
  go_enter Tryd.func31, Tryd.ntmps31
  go_wp2_with (first
    | (go_at_call_of 69 o; refine (HFP.out _).mono ?_; rintro e w2 ⟨rfl, hb⟩; have h1 := (EnvQ.new w k i o k2 i2 o2).after hb; obtain ⟨c0, c1, c2, c3, c4, c5⟩ := h1.cells; obtain ⟨d0, d1, d2, d3, d4, d5⟩ := (h1.alloc (.cells #[.int .i64 0, .int .i64 0] 112)).cells; have H := Lib.hid h1; clear h1 hb))
  refine wp_loop_rounds 3 ?_
  rw [rounds_succ]
  go_wp2_with (first
    | (go_at_call_of 69 o; refine (HFP.out _).mono ?_; rintro e w1 ⟨rfl, hb⟩; have h1 := EnvS.after ((EnvS.new H.out).alloc _) hb; have hx := box_after hb; (try clear c0 c1 c2 c3 c4 c5); (try clear z0 z1 f0 f1); (try clear d0 d1 d2 d3 d4 d5); (try clear y0 y1 y2); have y0 := Go.Joins.cell_of_block hx 0; have y1 := Go.Joins.cell_of_block hx 1; have y2 := Go.Joins.cell_of_block hx 2; simp only [List.getElem?_toArray, List.getElem?_cons_zero, List.getElem?_cons_succ, World.size_alloc] at y0 y1 y2; clear hx; obtain ⟨c0, c1, c2, c3, c4, c5⟩ := h1.q.cells; obtain ⟨z0, z1, f0, f1⟩ := h1.cells; have H := Lib.hid h1; clear h1 hb)
    | (go_at_call 59; refine (HRP.out _ _ _ _ H.out).mono ?_; rintro e w1 ⟨⟨S, rfl⟩, h1, q2⟩; (try clear y0 y1 y2); (try clear c0 c1 c2 c3 c4 c5); (try clear z0 z1 f0 f1); (try clear d0 d1 d2 d3 d4 d5); obtain ⟨c0, c1, c2, c3, c4, c5⟩ := h1.q.cells; obtain ⟨z0, z1, f0, f1⟩ := h1.cells; have H := Lib.hid h1; clear h1))
  have H := Lib.hid (H.out.set0 mp)
  generalize w1.setCell ⟨w2.heap.size, 0, none⟩ (.int .i64 mp) = W3 at *
  clear c0 c1 c2 c3 c4 c5 z0 z1 f0 f1 q2
  obtain ⟨c0, c1, c2, c3, c4, c5⟩ := H.out.q.cells
  obtain ⟨z0, z1, f0, f1⟩ := H.out.cells
  rw [rounds_succ]
  go_wp2_with (first
    | (go_at_call_of 69 o2; refine (HFQ.out _).mono ?_; rintro e w1 ⟨rfl, hb⟩; have h1 := EnvS.after (H.out.alloc _) hb; have hx := box_after hb; (try clear c0 c1 c2 c3 c4 c5); (try clear z0 z1 f0 f1); (try clear d0 d1 d2 d3 d4 d5); (try clear y0 y1 y2); have y0 := Go.Joins.cell_of_block hx 0; have y1 := Go.Joins.cell_of_block hx 1; have y2 := Go.Joins.cell_of_block hx 2; simp only [List.getElem?_toArray, List.getElem?_cons_zero, List.getElem?_cons_succ, World.size_alloc] at y0 y1 y2; clear hx; obtain ⟨c0, c1, c2, c3, c4, c5⟩ := h1.q.cells; obtain ⟨z0, z1, f0, f1⟩ := h1.cells; have H := Lib.hid h1; clear h1 hb)
    | (go_at_call 59; refine (HRQ.out _ _ _ _ H.out).mono ?_; rintro e w1 ⟨⟨S, rfl⟩, h1, q2⟩; (try clear y0 y1 y2); (try clear c0 c1 c2 c3 c4 c5); (try clear z0 z1 f0 f1); (try clear d0 d1 d2 d3 d4 d5); obtain ⟨c0, c1, c2, c3, c4, c5⟩ := h1.q.cells; obtain ⟨z0, z1, f0, f1⟩ := h1.cells; have H := Lib.hid h1; clear h1))
  have H := Lib.hid (H.out.set1 mq)
  generalize w1.setCell ⟨w2.heap.size, 1, none⟩ (.int .i64 mq) = W3 at *
  clear c0 c1 c2 c3 c4 c5 z0 z1 f0 f1 q2
  obtain ⟨c0, c1, c2, c3, c4, c5⟩ := H.out.q.cells
  obtain ⟨z0, z1, f0, f1⟩ := H.out.cells
  rw [rounds_succ]
  go_wp2_with (first
    | (go_at_call_of 69 o; refine (HFP.out _).mono ?_; rintro e w1 ⟨rfl, hb⟩; have h1 := H.out.after hb; (try clear c0 c1 c2 c3 c4 c5); (try clear z0 z1 f0 f1); obtain ⟨c0, c1, c2, c3, c4, c5⟩ := h1.q.cells; obtain ⟨z0, z1, f0, f1⟩ := h1.cells; have H := Lib.hid h1; clear h1 hb)
    | (go_at_call_of 69 o2; refine (HFQ.out _).mono ?_; rintro e w1 ⟨rfl, hb⟩; have h1 := H.out.after hb; (try clear c0 c1 c2 c3 c4 c5); (try clear z0 z1 f0 f1); obtain ⟨c0, c1, c2, c3, c4, c5⟩ := h1.q.cells; obtain ⟨z0, z1, f0, f1⟩ := h1.cells; have H := Lib.hid h1; clear h1 hb)
    | (go_at_call_of 67 i; refine (HOP.out _ _ _ _ H.out).mono ?_; rintro e w' ⟨rfl, rfl, kc⟩)
    | (go_at_call_of 67 i2; refine (HOQ.out _ _ _ _ H.out).mono ?_; rintro e w' ⟨rfl, rfl, kc2⟩))
  go_ret2
  exact ⟨rfl, H.out.q.below⟩
set_option maxRecDepth 20000 in
set_option maxHeartbeats 3200000 in
theorem same_d5 (HFP : Hid (FixA k i o false)) (HFQ : Hid (FixA k2 i2 o2 false)) (HRP : Hid (SeeS w g k i o k2 i2 o2 k i o pp yp mp)) (HRQ : Hid (SeeS w g k i o k2 i2 o2 k2 i2 o2 pq yq mq)) (hi : (i == i2) = false) (HOP : Hid (KindS w g k i o k2 i2 o2 i pp kp)) (HOQ : Hid (KindS w g k i o k2 i2 o2 i2 pq kq)) (t1 : (kp == 1) = false) (e1 : (o == (mp : Int)) = true) : Calls Tryd.prog 31 #[.pointer (some ⟨g, 0, none⟩), .agg #[.int .i64 k, .int .i64 i, .int .i64 o], .agg #[.int .i64 k2, .int .i64 i2, .int .i64 o2]] w fun e w' => e = .returned (.tuple #[.bool false, .int .i64 146]) ∧ Below w.heap.size w w' := by
  have x0 := idx0 k i o k2 i2 o2
  have x1 := idx1 k i o k2 i2 o2
  go_enter Tryd.func31, Tryd.ntmps31
  go_wp2_with (first
    | (go_at_call_of 69 o; refine (HFP.out _).mono ?_; rintro e w2 ⟨rfl, hb⟩; have h1 := (EnvQ.new w k i o k2 i2 o2).after hb; obtain ⟨c0, c1, c2, c3, c4, c5⟩ := h1.cells; obtain ⟨d0, d1, d2, d3, d4, d5⟩ := (h1.alloc (.cells #[.int .i64 0, .int .i64 0] 112)).cells; have H := Lib.hid h1; clear h1 hb))
  refine wp_loop_rounds 3 ?_
  rw [rounds_succ]
  go_wp2_with (first
    | (go_at_call_of 69 o; refine (HFP.out _).mono ?_; rintro e w1 ⟨rfl, hb⟩; have h1 := EnvS.after ((EnvS.new H.out).alloc _) hb; have hx := box_after hb; (try clear c0 c1 c2 c3 c4 c5); (try clear z0 z1 f0 f1); (try clear d0 d1 d2 d3 d4 d5); (try clear y0 y1 y2); have y0 := Go.Joins.cell_of_block hx 0; have y1 := Go.Joins.cell_of_block hx 1; have y2 := Go.Joins.cell_of_block hx 2; simp only [List.getElem?_toArray, List.getElem?_cons_zero, List.getElem?_cons_succ, World.size_alloc] at y0 y1 y2; clear hx; obtain ⟨c0, c1, c2, c3, c4, c5⟩ := h1.q.cells; obtain ⟨z0, z1, f0, f1⟩ := h1.cells; have H := Lib.hid h1; clear h1 hb)
    | (go_at_call 59; refine (HRP.out _ _ _ _ H.out).mono ?_; rintro e w1 ⟨⟨S, rfl⟩, h1, q2⟩; (try clear y0 y1 y2); (try clear c0 c1 c2 c3 c4 c5); (try clear z0 z1 f0 f1); (try clear d0 d1 d2 d3 d4 d5); obtain ⟨c0, c1, c2, c3, c4, c5⟩ := h1.q.cells; obtain ⟨z0, z1, f0, f1⟩ := h1.cells; have H := Lib.hid h1; clear h1))
  have H := Lib.hid (H.out.set0 mp)
  generalize w1.setCell ⟨w2.heap.size, 0, none⟩ (.int .i64 mp) = W3 at *
  clear c0 c1 c2 c3 c4 c5 z0 z1 f0 f1 q2
  obtain ⟨c0, c1, c2, c3, c4, c5⟩ := H.out.q.cells
  obtain ⟨z0, z1, f0, f1⟩ := H.out.cells
  rw [rounds_succ]
  go_wp2_with (first
    | (go_at_call_of 69 o2; refine (HFQ.out _).mono ?_; rintro e w1 ⟨rfl, hb⟩; have h1 := EnvS.after (H.out.alloc _) hb; have hx := box_after hb; (try clear c0 c1 c2 c3 c4 c5); (try clear z0 z1 f0 f1); (try clear d0 d1 d2 d3 d4 d5); (try clear y0 y1 y2); have y0 := Go.Joins.cell_of_block hx 0; have y1 := Go.Joins.cell_of_block hx 1; have y2 := Go.Joins.cell_of_block hx 2; simp only [List.getElem?_toArray, List.getElem?_cons_zero, List.getElem?_cons_succ, World.size_alloc] at y0 y1 y2; clear hx; obtain ⟨c0, c1, c2, c3, c4, c5⟩ := h1.q.cells; obtain ⟨z0, z1, f0, f1⟩ := h1.cells; have H := Lib.hid h1; clear h1 hb)
    | (go_at_call 59; refine (HRQ.out _ _ _ _ H.out).mono ?_; rintro e w1 ⟨⟨S, rfl⟩, h1, q2⟩; (try clear y0 y1 y2); (try clear c0 c1 c2 c3 c4 c5); (try clear z0 z1 f0 f1); (try clear d0 d1 d2 d3 d4 d5); obtain ⟨c0, c1, c2, c3, c4, c5⟩ := h1.q.cells; obtain ⟨z0, z1, f0, f1⟩ := h1.cells; have H := Lib.hid h1; clear h1))
  have H := Lib.hid (H.out.set1 mq)
  generalize w1.setCell ⟨w2.heap.size, 1, none⟩ (.int .i64 mq) = W3 at *
  clear c0 c1 c2 c3 c4 c5 z0 z1 f0 f1 q2
  obtain ⟨c0, c1, c2, c3, c4, c5⟩ := H.out.q.cells
  obtain ⟨z0, z1, f0, f1⟩ := H.out.cells
  rw [rounds_succ]
  go_wp2_with (first
    | (go_at_call_of 69 o; refine (HFP.out _).mono ?_; rintro e w1 ⟨rfl, hb⟩; have h1 := H.out.after hb; (try clear c0 c1 c2 c3 c4 c5); (try clear z0 z1 f0 f1); obtain ⟨c0, c1, c2, c3, c4, c5⟩ := h1.q.cells; obtain ⟨z0, z1, f0, f1⟩ := h1.cells; have H := Lib.hid h1; clear h1 hb)
    | (go_at_call_of 69 o2; refine (HFQ.out _).mono ?_; rintro e w1 ⟨rfl, hb⟩; have h1 := H.out.after hb; (try clear c0 c1 c2 c3 c4 c5); (try clear z0 z1 f0 f1); obtain ⟨c0, c1, c2, c3, c4, c5⟩ := h1.q.cells; obtain ⟨z0, z1, f0, f1⟩ := h1.cells; have H := Lib.hid h1; clear h1 hb)
    | (go_at_call_of 67 i; refine (HOP.out _ _ _ _ H.out).mono ?_; rintro e w' ⟨rfl, rfl, kc⟩)
    | (go_at_call_of 67 i2; refine (HOQ.out _ _ _ _ H.out).mono ?_; rintro e w' ⟨rfl, rfl, kc2⟩))
  go_ret2
  exact ⟨rfl, H.out.q.below⟩
set_option maxRecDepth 20000 in
set_option maxHeartbeats 3200000 in
theorem same_d6 (HFP : Hid (FixA k i o false)) (HFQ : Hid (FixA k2 i2 o2 false)) (HRP : Hid (SeeS w g k i o k2 i2 o2 k i o pp yp mp)) (HRQ : Hid (SeeS w g k i o k2 i2 o2 k2 i2 o2 pq yq mq)) (hi : (i == i2) = false) (HOP : Hid (KindS w g k i o k2 i2 o2 i pp kp)) (HOQ : Hid (KindS w g k i o k2 i2 o2 i2 pq kq)) (t1 : (kp == 1) = false) (e1 : (o == (mp : Int)) = false) (e2 : (o2 == (mq : Int)) = true) : Calls Tryd.prog 31 #[.pointer (some ⟨g, 0, none⟩), .agg #[.int .i64 k, .int .i64 i, .int .i64 o], .agg #[.int .i64 k2, .int .i64 i2, .int .i64 o2]] w fun e w' => e = .returned (.tuple #[.bool false, .int .i64 146]) ∧ Below w.heap.size w w' := by
  have x0 := idx0 k i o k2 i2 o2
  have x1 := idx1 k i o k2 i2 o2
  go_enter Tryd.func31, Tryd.ntmps31
  go_wp2_with (first
    | (go_at_call_of 69 o; refine (HFP.out _).mono ?_; rintro e w2 ⟨rfl, hb⟩; have h1 := (EnvQ.new w k i o k2 i2 o2).after hb; obtain ⟨c0, c1, c2, c3, c4, c5⟩ := h1.cells; obtain ⟨d0, d1, d2, d3, d4, d5⟩ := (h1.alloc (.cells #[.int .i64 0, .int .i64 0] 112)).cells; have H := Lib.hid h1; clear h1 hb))
  refine wp_loop_rounds 3 ?_
  rw [rounds_succ]
  go_wp2_with (first
    | (go_at_call_of 69 o; refine (HFP.out _).mono ?_; rintro e w1 ⟨rfl, hb⟩; have h1 := EnvS.after ((EnvS.new H.out).alloc _) hb; have hx := box_after hb; (try clear c0 c1 c2 c3 c4 c5); (try clear z0 z1 f0 f1); (try clear d0 d1 d2 d3 d4 d5); (try clear y0 y1 y2); have y0 := Go.Joins.cell_of_block hx 0; have y1 := Go.Joins.cell_of_block hx 1; have y2 := Go.Joins.cell_of_block hx 2; simp only [List.getElem?_toArray, List.getElem?_cons_zero, List.getElem?_cons_succ, World.size_alloc] at y0 y1 y2; clear hx; obtain ⟨c0, c1, c2, c3, c4, c5⟩ := h1.q.cells; obtain ⟨z0, z1, f0, f1⟩ := h1.cells; have H := Lib.hid h1; clear h1 hb)
    | (go_at_call 59; refine (HRP.out _ _ _ _ H.out).mono ?_; rintro e w1 ⟨⟨S, rfl⟩, h1, q2⟩; (try clear y0 y1 y2); (try clear c0 c1 c2 c3 c4 c5); (try clear z0 z1 f0 f1); (try clear d0 d1 d2 d3 d4 d5); obtain ⟨c0, c1, c2, c3, c4, c5⟩ := h1.q.cells; obtain ⟨z0, z1, f0, f1⟩ := h1.cells; have H := Lib.hid h1; clear h1))
  have H := Lib.hid (H.out.set0 mp)
  generalize w1.setCell ⟨w2.heap.size, 0, none⟩ (.int .i64 mp) = W3 at *
  clear c0 c1 c2 c3 c4 c5 z0 z1 f0 f1 q2
  obtain ⟨c0, c1, c2, c3, c4, c5⟩ := H.out.q.cells
  obtain ⟨z0, z1, f0, f1⟩ := H.out.cells
  rw [rounds_succ]
  go_wp2_with (first
    | (go_at_call_of 69 o2; refine (HFQ.out _).mono ?_; rintro e w1 ⟨rfl, hb⟩; have h1 := EnvS.after (H.out.alloc _) hb; have hx := box_after hb; (try clear c0 c1 c2 c3 c4 c5); (try clear z0 z1 f0 f1); (try clear d0 d1 d2 d3 d4 d5); (try clear y0 y1 y2); have y0 := Go.Joins.cell_of_block hx 0; have y1 := Go.Joins.cell_of_block hx 1; have y2 := Go.Joins.cell_of_block hx 2; simp only [List.getElem?_toArray, List.getElem?_cons_zero, List.getElem?_cons_succ, World.size_alloc] at y0 y1 y2; clear hx; obtain ⟨c0, c1, c2, c3, c4, c5⟩ := h1.q.cells; obtain ⟨z0, z1, f0, f1⟩ := h1.cells; have H := Lib.hid h1; clear h1 hb)
    | (go_at_call 59; refine (HRQ.out _ _ _ _ H.out).mono ?_; rintro e w1 ⟨⟨S, rfl⟩, h1, q2⟩; (try clear y0 y1 y2); (try clear c0 c1 c2 c3 c4 c5); (try clear z0 z1 f0 f1); (try clear d0 d1 d2 d3 d4 d5); obtain ⟨c0, c1, c2, c3, c4, c5⟩ := h1.q.cells; obtain ⟨z0, z1, f0, f1⟩ := h1.cells; have H := Lib.hid h1; clear h1))
  have H := Lib.hid (H.out.set1 mq)
  generalize w1.setCell ⟨w2.heap.size, 1, none⟩ (.int .i64 mq) = W3 at *
  clear c0 c1 c2 c3 c4 c5 z0 z1 f0 f1 q2
  obtain ⟨c0, c1, c2, c3, c4, c5⟩ := H.out.q.cells
  obtain ⟨z0, z1, f0, f1⟩ := H.out.cells
  rw [rounds_succ]
  go_wp2_with (first
    | (go_at_call_of 69 o; refine (HFP.out _).mono ?_; rintro e w1 ⟨rfl, hb⟩; have h1 := H.out.after hb; (try clear c0 c1 c2 c3 c4 c5); (try clear z0 z1 f0 f1); obtain ⟨c0, c1, c2, c3, c4, c5⟩ := h1.q.cells; obtain ⟨z0, z1, f0, f1⟩ := h1.cells; have H := Lib.hid h1; clear h1 hb)
    | (go_at_call_of 69 o2; refine (HFQ.out _).mono ?_; rintro e w1 ⟨rfl, hb⟩; have h1 := H.out.after hb; (try clear c0 c1 c2 c3 c4 c5); (try clear z0 z1 f0 f1); obtain ⟨c0, c1, c2, c3, c4, c5⟩ := h1.q.cells; obtain ⟨z0, z1, f0, f1⟩ := h1.cells; have H := Lib.hid h1; clear h1 hb)
    | (go_at_call_of 67 i; refine (HOP.out _ _ _ _ H.out).mono ?_; rintro e w' ⟨rfl, rfl, kc⟩)
    | (go_at_call_of 67 i2; refine (HOQ.out _ _ _ _ H.out).mono ?_; rintro e w' ⟨rfl, rfl, kc2⟩))
  go_ret2
  exact ⟨rfl, H.out.q.below⟩
set_option maxRecDepth 20000 in
set_option maxHeartbeats 3200000 in
theorem same_d7 (HFP : Hid (FixA k i o false)) (HFQ : Hid (FixA k2 i2 o2 false)) (HRP : Hid (SeeS w g k i o k2 i2 o2 k i o pp yp mp)) (HRQ : Hid (SeeS w g k i o k2 i2 o2 k2 i2 o2 pq yq mq)) (hi : (i == i2) = false) (HOP : Hid (KindS w g k i o k2 i2 o2 i pp kp)) (HOQ : Hid (KindS w g k i o k2 i2 o2 i2 pq kq)) (t1 : (kp == 1) = false) (e1 : (o == (mp : Int)) = false) (e2 : (o2 == (mq : Int)) = false) : Calls Tryd.prog 31 #[.pointer (some ⟨g, 0, none⟩), .agg #[.int .i64 k, .int .i64 i, .int .i64 o], .agg #[.int .i64 k2, .int .i64 i2, .int .i64 o2]] w fun e w' => e = .returned (.tuple #[.bool false, .int .i64 0]) ∧ Below w.heap.size w w' := by
  have x0 := idx0 k i o k2 i2 o2
  have x1 := idx1 k i o k2 i2 o2
  go_enter Tryd.func31, Tryd.ntmps31
  go_wp2_with (first
    | (go_at_call_of 69 o; refine (HFP.out _).mono ?_; rintro e w2 ⟨rfl, hb⟩; have h1 := (EnvQ.new w k i o k2 i2 o2).after hb; obtain ⟨c0, c1, c2, c3, c4, c5⟩ := h1.cells; obtain ⟨d0, d1, d2, d3, d4, d5⟩ := (h1.alloc (.cells #[.int .i64 0, .int .i64 0] 112)).cells; have H := Lib.hid h1; clear h1 hb))
  refine wp_loop_rounds 3 ?_
  rw [rounds_succ]
  go_wp2_with (first
    | (go_at_call_of 69 o; refine (HFP.out _).mono ?_; rintro e w1 ⟨rfl, hb⟩; have h1 := EnvS.after ((EnvS.new H.out).alloc _) hb; have hx := box_after hb; (try clear c0 c1 c2 c3 c4 c5); (try clear z0 z1 f0 f1); (try clear d0 d1 d2 d3 d4 d5); (try clear y0 y1 y2); have y0 := Go.Joins.cell_of_block hx 0; have y1 := Go.Joins.cell_of_block hx 1; have y2 := Go.Joins.cell_of_block hx 2; simp only [List.getElem?_toArray, List.getElem?_cons_zero, List.getElem?_cons_succ, World.size_alloc] at y0 y1 y2; clear hx; obtain ⟨c0, c1, c2, c3, c4, c5⟩ := h1.q.cells; obtain ⟨z0, z1, f0, f1⟩ := h1.cells; have H := Lib.hid h1; clear h1 hb)
    | (go_at_call 59; refine (HRP.out _ _ _ _ H.out).mono ?_; rintro e w1 ⟨⟨S, rfl⟩, h1, q2⟩; (try clear y0 y1 y2); (try clear c0 c1 c2 c3 c4 c5); (try clear z0 z1 f0 f1); (try clear d0 d1 d2 d3 d4 d5); obtain ⟨c0, c1, c2, c3, c4, c5⟩ := h1.q.cells; obtain ⟨z0, z1, f0, f1⟩ := h1.cells; have H := Lib.hid h1; clear h1))
  have H := Lib.hid (H.out.set0 mp)
  generalize w1.setCell ⟨w2.heap.size, 0, none⟩ (.int .i64 mp) = W3 at *
  clear c0 c1 c2 c3 c4 c5 z0 z1 f0 f1 q2
  obtain ⟨c0, c1, c2, c3, c4, c5⟩ := H.out.q.cells
  obtain ⟨z0, z1, f0, f1⟩ := H.out.cells
  rw [rounds_succ]
  go_wp2_with (first
    | (go_at_call_of 69 o2; refine (HFQ.out _).mono ?_; rintro e w1 ⟨rfl, hb⟩; have h1 := EnvS.after (H.out.alloc _) hb; have hx := box_after hb; (try clear c0 c1 c2 c3 c4 c5); (try clear z0 z1 f0 f1); (try clear d0 d1 d2 d3 d4 d5); (try clear y0 y1 y2); have y0 := Go.Joins.cell_of_block hx 0; have y1 := Go.Joins.cell_of_block hx 1; have y2 := Go.Joins.cell_of_block hx 2; simp only [List.getElem?_toArray, List.getElem?_cons_zero, List.getElem?_cons_succ, World.size_alloc] at y0 y1 y2; clear hx; obtain ⟨c0, c1, c2, c3, c4, c5⟩ := h1.q.cells; obtain ⟨z0, z1, f0, f1⟩ := h1.cells; have H := Lib.hid h1; clear h1 hb)
    | (go_at_call 59; refine (HRQ.out _ _ _ _ H.out).mono ?_; rintro e w1 ⟨⟨S, rfl⟩, h1, q2⟩; (try clear y0 y1 y2); (try clear c0 c1 c2 c3 c4 c5); (try clear z0 z1 f0 f1); (try clear d0 d1 d2 d3 d4 d5); obtain ⟨c0, c1, c2, c3, c4, c5⟩ := h1.q.cells; obtain ⟨z0, z1, f0, f1⟩ := h1.cells; have H := Lib.hid h1; clear h1))
  have H := Lib.hid (H.out.set1 mq)
  generalize w1.setCell ⟨w2.heap.size, 1, none⟩ (.int .i64 mq) = W3 at *
  clear c0 c1 c2 c3 c4 c5 z0 z1 f0 f1 q2
  obtain ⟨c0, c1, c2, c3, c4, c5⟩ := H.out.q.cells
  obtain ⟨z0, z1, f0, f1⟩ := H.out.cells
  rw [rounds_succ]
  go_wp2_with (first
    | (go_at_call_of 69 o; refine (HFP.out _).mono ?_; rintro e w1 ⟨rfl, hb⟩; have h1 := H.out.after hb; (try clear c0 c1 c2 c3 c4 c5); (try clear z0 z1 f0 f1); obtain ⟨c0, c1, c2, c3, c4, c5⟩ := h1.q.cells; obtain ⟨z0, z1, f0, f1⟩ := h1.cells; have H := Lib.hid h1; clear h1 hb)
    | (go_at_call_of 69 o2; refine (HFQ.out _).mono ?_; rintro e w1 ⟨rfl, hb⟩; have h1 := H.out.after hb; (try clear c0 c1 c2 c3 c4 c5); (try clear z0 z1 f0 f1); obtain ⟨c0, c1, c2, c3, c4, c5⟩ := h1.q.cells; obtain ⟨z0, z1, f0, f1⟩ := h1.cells; have H := Lib.hid h1; clear h1 hb)
    | (go_at_call_of 67 i; refine (HOP.out _ _ _ _ H.out).mono ?_; rintro e w' ⟨rfl, rfl, kc⟩)
    | (go_at_call_of 67 i2; refine (HOQ.out _ _ _ _ H.out).mono ?_; rintro e w' ⟨rfl, rfl, kc2⟩))
  go_ret2
  exact ⟨rfl, H.out.q.below⟩
set_option maxRecDepth 20000 in
set_option maxHeartbeats 3200000 in
theorem same_d8 (HFP : Hid (FixA k i o false)) (HFQ : Hid (FixA k2 i2 o2 false)) (HRP : Hid (SeeS w g k i o k2 i2 o2 k i o pp yp mp)) (HRQ : Hid (SeeS w g k i o k2 i2 o2 k2 i2 o2 pq yq mq)) (hi : (i == i2) = false) (HOP : Hid (KindS w g k i o k2 i2 o2 i pp kp)) (HOQ : Hid (KindS w g k i o k2 i2 o2 i2 pq kq)) (t1 : (kp == 1) = true) (t2 : (kq == 1) = false) (e1 : (o == (mp : Int)) = true) : Calls Tryd.prog 31 #[.pointer (some ⟨g, 0, none⟩), .agg #[.int .i64 k, .int .i64 i, .int .i64 o], .agg #[.int .i64 k2, .int .i64 i2, .int .i64 o2]] w fun e w' => e = .returned (.tuple #[.bool false, .int .i64 146]) ∧ Below w.heap.size w w' := by
  have x0 := idx0 k i o k2 i2 o2
  have x1 := idx1 k i o k2 i2 o2
  go_enter Tryd.func31, Tryd.ntmps31
  go_wp2_with (first
    | (go_at_call_of 69 o; refine (HFP.out _).mono ?_; rintro e w2 ⟨rfl, hb⟩; have h1 := (EnvQ.new w k i o k2 i2 o2).after hb; obtain ⟨c0, c1, c2, c3, c4, c5⟩ := h1.cells; obtain ⟨d0, d1, d2, d3, d4, d5⟩ := (h1.alloc (.cells #[.int .i64 0, .int .i64 0] 112)).cells; have H := Lib.hid h1; clear h1 hb))
  refine wp_loop_rounds 3 ?_
  rw [rounds_succ]
  go_wp2_with (first
    | (go_at_call_of 69 o; refine (HFP.out _).mono ?_; rintro e w1 ⟨rfl, hb⟩; have h1 := EnvS.after ((EnvS.new H.out).alloc _) hb; have hx := box_after hb; (try clear c0 c1 c2 c3 c4 c5); (try clear z0 z1 f0 f1); (try clear d0 d1 d2 d3 d4 d5); (try clear y0 y1 y2); have y0 := Go.Joins.cell_of_block hx 0; have y1 := Go.Joins.cell_of_block hx 1; have y2 := Go.Joins.cell_of_block hx 2; simp only [List.getElem?_toArray, List.getElem?_cons_zero, List.getElem?_cons_succ, World.size_alloc] at y0 y1 y2; clear hx; obtain ⟨c0, c1, c2, c3, c4, c5⟩ := h1.q.cells; obtain ⟨z0, z1, f0, f1⟩ := h1.cells; have H := Lib.hid h1; clear h1 hb)
    | (go_at_call 59; refine (HRP.out _ _ _ _ H.out).mono ?_; rintro e w1 ⟨⟨S, rfl⟩, h1, q2⟩; (try clear y0 y1 y2); (try clear c0 c1 c2 c3 c4 c5); (try clear z0 z1 f0 f1); (try clear d0 d1 d2 d3 d4 d5); obtain ⟨c0, c1, c2, c3, c4, c5⟩ := h1.q.cells; obtain ⟨z0, z1, f0, f1⟩ := h1.cells; have H := Lib.hid h1; clear h1))
  have H := Lib.hid (H.out.set0 mp)
  generalize w1.setCell ⟨w2.heap.size, 0, none⟩ (.int .i64 mp) = W3 at *
  clear c0 c1 c2 c3 c4 c5 z0 z1 f0 f1 q2
  obtain ⟨c0, c1, c2, c3, c4, c5⟩ := H.out.q.cells
  obtain ⟨z0, z1, f0, f1⟩ := H.out.cells
  rw [rounds_succ]
  go_wp2_with (first
    | (go_at_call_of 69 o2; refine (HFQ.out _).mono ?_; rintro e w1 ⟨rfl, hb⟩; have h1 := EnvS.after (H.out.alloc _) hb; have hx := box_after hb; (try clear c0 c1 c2 c3 c4 c5); (try clear z0 z1 f0 f1); (try clear d0 d1 d2 d3 d4 d5); (try clear y0 y1 y2); have y0 := Go.Joins.cell_of_block hx 0; have y1 := Go.Joins.cell_of_block hx 1; have y2 := Go.Joins.cell_of_block hx 2; simp only [List.getElem?_toArray, List.getElem?_cons_zero, List.getElem?_cons_succ, World.size_alloc] at y0 y1 y2; clear hx; obtain ⟨c0, c1, c2, c3, c4, c5⟩ := h1.q.cells; obtain ⟨z0, z1, f0, f1⟩ := h1.cells; have H := Lib.hid h1; clear h1 hb)
    | (go_at_call 59; refine (HRQ.out _ _ _ _ H.out).mono ?_; rintro e w1 ⟨⟨S, rfl⟩, h1, q2⟩; (try clear y0 y1 y2); (try clear c0 c1 c2 c3 c4 c5); (try clear z0 z1 f0 f1); (try clear d0 d1 d2 d3 d4 d5); obtain ⟨c0, c1, c2, c3, c4, c5⟩ := h1.q.cells; obtain ⟨z0, z1, f0, f1⟩ := h1.cells; have H := Lib.hid h1; clear h1))
  have H := Lib.hid (H.out.set1 mq)
  generalize w1.setCell ⟨w2.heap.size, 1, none⟩ (.int .i64 mq) = W3 at *
  clear c0 c1 c2 c3 c4 c5 z0 z1 f0 f1 q2
  obtain ⟨c0, c1, c2, c3, c4, c5⟩ := H.out.q.cells
  obtain ⟨z0, z1, f0, f1⟩ := H.out.cells
  rw [rounds_succ]
  go_wp2_with (first
    | (go_at_call_of 69 o; refine (HFP.out _).mono ?_; rintro e w1 ⟨rfl, hb⟩; have h1 := H.out.after hb; (try clear c0 c1 c2 c3 c4 c5); (try clear z0 z1 f0 f1); obtain ⟨c0, c1, c2, c3, c4, c5⟩ := h1.q.cells; obtain ⟨z0, z1, f0, f1⟩ := h1.cells; have H := Lib.hid h1; clear h1 hb)
    | (go_at_call_of 69 o2; refine (HFQ.out _).mono ?_; rintro e w1 ⟨rfl, hb⟩; have h1 := H.out.after hb; (try clear c0 c1 c2 c3 c4 c5); (try clear z0 z1 f0 f1); obtain ⟨c0, c1, c2, c3, c4, c5⟩ := h1.q.cells; obtain ⟨z0, z1, f0, f1⟩ := h1.cells; have H := Lib.hid h1; clear h1 hb)
    | (go_at_call_of 67 i; refine (HOP.out _ _ _ _ H.out).mono ?_; rintro e w' ⟨rfl, rfl, kc⟩)
    | (go_at_call_of 67 i2; refine (HOQ.out _ _ _ _ H.out).mono ?_; rintro e w' ⟨rfl, rfl, kc2⟩))
  go_ret2
  exact ⟨rfl, H.out.q.below⟩
set_option maxRecDepth 20000 in
set_option maxHeartbeats 3200000 in
theorem same_d9 (HFP : Hid (FixA k i o false)) (HFQ : Hid (FixA k2 i2 o2 false)) (HRP : Hid (SeeS w g k i o k2 i2 o2 k i o pp yp mp)) (HRQ : Hid (SeeS w g k i o k2 i2 o2 k2 i2 o2 pq yq mq)) (hi : (i == i2) = false) (HOP : Hid (KindS w g k i o k2 i2 o2 i pp kp)) (HOQ : Hid (KindS w g k i o k2 i2 o2 i2 pq kq)) (t1 : (kp == 1) = true) (t2 : (kq == 1) = false) (e1 : (o == (mp : Int)) = false) (e2 : (o2 == (mq : Int)) = true) : Calls Tryd.prog 31 #[.pointer (some ⟨g, 0, none⟩), .agg #[.int .i64 k, .int .i64 i, .int .i64 o], .agg #[.int .i64 k2, .int .i64 i2, .int .i64 o2]] w fun e w' => e = .returned (.tuple #[.bool false, .int .i64 146]) ∧ Below w.heap.size w w' := by
  have x0 := idx0 k i o k2 i2 o2
  have x1 := idx1 k i o k2 i2 o2
  go_enter Tryd.func31, Tryd.ntmps31
  go_wp2_with (first
    | (go_at_call_of 69 o; refine (HFP.out _).mono ?_; rintro e w2 ⟨rfl, hb⟩; have h1 := (EnvQ.new w k i o k2 i2 o2).after hb; obtain ⟨c0, c1, c2, c3, c4, c5⟩ := h1.cells; obtain ⟨d0, d1, d2, d3, d4, d5⟩ := (h1.alloc (.cells #[.int .i64 0, .int .i64 0] 112)).cells; have H := Lib.hid h1; clear h1 hb))
  refine wp_loop_rounds 3 ?_
  rw [rounds_succ]
  go_wp2_with (first
    | (go_at_call_of 69 o; refine (HFP.out _).mono ?_; rintro e w1 ⟨rfl, hb⟩; have h1 := EnvS.after ((EnvS.new H.out).alloc _) hb; have hx := box_after hb; (try clear c0 c1 c2 c3 c4 c5); (try clear z0 z1 f0 f1); (try clear d0 d1 d2 d3 d4 d5); (try clear y0 y1 y2); have y0 := Go.Joins.cell_of_block hx 0; have y1 := Go.Joins.cell_of_block hx 1; have y2 := Go.Joins.cell_of_block hx 2; simp only [List.getElem?_toArray, List.getElem?_cons_zero, List.getElem?_cons_succ, World.size_alloc] at y0 y1 y2; clear hx; obtain ⟨c0, c1, c2, c3, c4, c5⟩ := h1.q.cells; obtain ⟨z0, z1, f0, f1⟩ := h1.cells; have H := Lib.hid h1; clear h1 hb)
    | (go_at_call 59; refine (HRP.out _ _ _ _ H.out).mono ?_; rintro e w1 ⟨⟨S, rfl⟩, h1, q2⟩; (try clear y0 y1 y2); (try clear c0 c1 c2 c3 c4 c5); (try clear z0 z1 f0 f1); (try clear d0 d1 d2 d3 d4 d5); obtain ⟨c0, c1, c2, c3, c4, c5⟩ := h1.q.cells; obtain ⟨z0, z1, f0, f1⟩ := h1.cells; have H := Lib.hid h1; clear h1))
  have H := Lib.hid (H.out.set0 mp)
  generalize w1.setCell ⟨w2.heap.size, 0, none⟩ (.int .i64 mp) = W3 at *
  clear c0 c1 c2 c3 c4 c5 z0 z1 f0 f1 q2
  obtain ⟨c0, c1, c2, c3, c4, c5⟩ := H.out.q.cells
  obtain ⟨z0, z1, f0, f1⟩ := H.out.cells
  rw [rounds_succ]
  go_wp2_with (first
    | (go_at_call_of 69 o2; refine (HFQ.out _).mono ?_; rintro e w1 ⟨rfl, hb⟩; have h1 := EnvS.after (H.out.alloc _) hb; have hx := box_after hb; (try clear c0 c1 c2 c3 c4 c5); (try clear z0 z1 f0 f1); (try clear d0 d1 d2 d3 d4 d5); (try clear y0 y1 y2); have y0 := Go.Joins.cell_of_block hx 0; have y1 := Go.Joins.cell_of_block hx 1; have y2 := Go.Joins.cell_of_block hx 2; simp only [List.getElem?_toArray, List.getElem?_cons_zero, List.getElem?_cons_succ, World.size_alloc] at y0 y1 y2; clear hx; obtain ⟨c0, c1, c2, c3, c4, c5⟩ := h1.q.cells; obtain ⟨z0, z1, f0, f1⟩ := h1.cells; have H := Lib.hid h1; clear h1 hb)
    | (go_at_call 59; refine (HRQ.out _ _ _ _ H.out).mono ?_; rintro e w1 ⟨⟨S, rfl⟩, h1, q2⟩; (try clear y0 y1 y2); (try clear c0 c1 c2 c3 c4 c5); (try clear z0 z1 f0 f1); (try clear d0 d1 d2 d3 d4 d5); obtain ⟨c0, c1, c2, c3, c4, c5⟩ := h1.q.cells; obtain ⟨z0, z1, f0, f1⟩ := h1.cells; have H := Lib.hid h1; clear h1))
  have H := Lib.hid (H.out.set1 mq)
  generalize w1.setCell ⟨w2.heap.size, 1, none⟩ (.int .i64 mq) = W3 at *
  clear c0 c1 c2 c3 c4 c5 z0 z1 f0 f1 q2
  obtain ⟨c0, c1, c2, c3, c4, c5⟩ := H.out.q.cells
  obtain ⟨z0, z1, f0, f1⟩ := H.out.cells
  rw [rounds_succ]
  go_wp2_with (first
    | (go_at_call_of 69 o; refine (HFP.out _).mono ?_; rintro e w1 ⟨rfl, hb⟩; have h1 := H.out.after hb; (try clear c0 c1 c2 c3 c4 c5); (try clear z0 z1 f0 f1); obtain ⟨c0, c1, c2, c3, c4, c5⟩ := h1.q.cells; obtain ⟨z0, z1, f0, f1⟩ := h1.cells; have H := Lib.hid h1; clear h1 hb)
    | (go_at_call_of 69 o2; refine (HFQ.out _).mono ?_; rintro e w1 ⟨rfl, hb⟩; have h1 := H.out.after hb; (try clear c0 c1 c2 c3 c4 c5); (try clear z0 z1 f0 f1); obtain ⟨c0, c1, c2, c3, c4, c5⟩ := h1.q.cells; obtain ⟨z0, z1, f0, f1⟩ := h1.cells; have H := Lib.hid h1; clear h1 hb)
    | (go_at_call_of 67 i; refine (HOP.out _ _ _ _ H.out).mono ?_; rintro e w' ⟨rfl, rfl, kc⟩)
    | (go_at_call_of 67 i2; refine (HOQ.out _ _ _ _ H.out).mono ?_; rintro e w' ⟨rfl, rfl, kc2⟩))
  go_ret2
  exact ⟨rfl, H.out.q.below⟩
set_option maxRecDepth 20000 in
set_option maxHeartbeats 3200000 in
theorem same_d10 (HFP : Hid (FixA k i o false)) (HFQ : Hid (FixA k2 i2 o2 false)) (HRP : Hid (SeeS w g k i o k2 i2 o2 k i o pp yp mp)) (HRQ : Hid (SeeS w g k i o k2 i2 o2 k2 i2 o2 pq yq mq)) (hi : (i == i2) = false) (HOP : Hid (KindS w g k i o k2 i2 o2 i pp kp)) (HOQ : Hid (KindS w g k i o k2 i2 o2 i2 pq kq)) (t1 : (kp == 1) = true) (t2 : (kq == 1) = false) (e1 : (o == (mp : Int)) = false) (e2 : (o2 == (mq : Int)) = false) : Calls Tryd.prog 31 #[.pointer (some ⟨g, 0, none⟩), .agg #[.int .i64 k, .int .i64 i, .int .i64 o], .agg #[.int .i64 k2, .int .i64 i2, .int .i64 o2]] w fun e w' => e = .returned (.tuple #[.bool false, .int .i64 0]) ∧ Below w.heap.size w w' := by
  have x0 := idx0 k i o k2 i2 o2
  have x1 := idx1 k i o k2 i2 o2
  go_enter Tryd.func31, Tryd.ntmps31
  go_wp2_with (first
    | (go_at_call_of 69 o; refine (HFP.out _).mono ?_; rintro e w2 ⟨rfl, hb⟩; have h1 := (EnvQ.new w k i o k2 i2 o2).after hb; obtain ⟨c0, c1, c2, c3, c4, c5⟩ := h1.cells; obtain ⟨d0, d1, d2, d3, d4, d5⟩ := (h1.alloc (.cells #[.int .i64 0, .int .i64 0] 112)).cells; have H := Lib.hid h1; clear h1 hb))
  refine wp_loop_rounds 3 ?_
  rw [rounds_succ]
  go_wp2_with (first
    | (go_at_call_of 69 o; refine (HFP.out _).mono ?_; rintro e w1 ⟨rfl, hb⟩; have h1 := EnvS.after ((EnvS.new H.out).alloc _) hb; have hx := box_after hb; (try clear c0 c1 c2 c3 c4 c5); (try clear z0 z1 f0 f1); (try clear d0 d1 d2 d3 d4 d5); (try clear y0 y1 y2); have y0 := Go.Joins.cell_of_block hx 0; have y1 := Go.Joins.cell_of_block hx 1; have y2 := Go.Joins.cell_of_block hx 2; simp only [List.getElem?_toArray, List.getElem?_cons_zero, List.getElem?_cons_succ, World.size_alloc] at y0 y1 y2; clear hx; obtain ⟨c0, c1, c2, c3, c4, c5⟩ := h1.q.cells; obtain ⟨z0, z1, f0, f1⟩ := h1.cells; have H := Lib.hid h1; clear h1 hb)
    | (go_at_call 59; refine (HRP.out _ _ _ _ H.out).mono ?_; rintro e w1 ⟨⟨S, rfl⟩, h1, q2⟩; (try clear y0 y1 y2); (try clear c0 c1 c2 c3 c4 c5); (try clear z0 z1 f0 f1); (try clear d0 d1 d2 d3 d4 d5); obtain ⟨c0, c1, c2, c3, c4, c5⟩ := h1.q.cells; obtain ⟨z0, z1, f0, f1⟩ := h1.cells; have H := Lib.hid h1; clear h1))
  have H := Lib.hid (H.out.set0 mp)
  generalize w1.setCell ⟨w2.heap.size, 0, none⟩ (.int .i64 mp) = W3 at *
  clear c0 c1 c2 c3 c4 c5 z0 z1 f0 f1 q2
  obtain ⟨c0, c1, c2, c3, c4, c5⟩ := H.out.q.cells
  obtain ⟨z0, z1, f0, f1⟩ := H.out.cells
  rw [rounds_succ]
  go_wp2_with (first
    | (go_at_call_of 69 o2; refine (HFQ.out _).mono ?_; rintro e w1 ⟨rfl, hb⟩; have h1 := EnvS.after (H.out.alloc _) hb; have hx := box_after hb; (try clear c0 c1 c2 c3 c4 c5); (try clear z0 z1 f0 f1); (try clear d0 d1 d2 d3 d4 d5); (try clear y0 y1 y2); have y0 := Go.Joins.cell_of_block hx 0; have y1 := Go.Joins.cell_of_block hx 1; have y2 := Go.Joins.cell_of_block hx 2; simp only [List.getElem?_toArray, List.getElem?_cons_zero, List.getElem?_cons_succ, World.size_alloc] at y0 y1 y2; clear hx; obtain ⟨c0, c1, c2, c3, c4, c5⟩ := h1.q.cells; obtain ⟨z0, z1, f0, f1⟩ := h1.cells; have H := Lib.hid h1; clear h1 hb)
    | (go_at_call 59; refine (HRQ.out _ _ _ _ H.out).mono ?_; rintro e w1 ⟨⟨S, rfl⟩, h1, q2⟩; (try clear y0 y1 y2); (try clear c0 c1 c2 c3 c4 c5); (try clear z0 z1 f0 f1); (try clear d0 d1 d2 d3 d4 d5); obtain ⟨c0, c1, c2, c3, c4, c5⟩ := h1.q.cells; obtain ⟨z0, z1, f0, f1⟩ := h1.cells; have H := Lib.hid h1; clear h1))
  have H := Lib.hid (H.out.set1 mq)
  generalize w1.setCell ⟨w2.heap.size, 1, none⟩ (.int .i64 mq) = W3 at *
  clear c0 c1 c2 c3 c4 c5 z0 z1 f0 f1 q2
  obtain ⟨c0, c1, c2, c3, c4, c5⟩ := H.out.q.cells
  obtain ⟨z0, z1, f0, f1⟩ := H.out.cells
  rw [rounds_succ]
  go_wp2_with (first
    | (go_at_call_of 69 o; refine (HFP.out _).mono ?_; rintro e w1 ⟨rfl, hb⟩; have h1 := H.out.after hb; (try clear c0 c1 c2 c3 c4 c5); (try clear z0 z1 f0 f1); obtain ⟨c0, c1, c2, c3, c4, c5⟩ := h1.q.cells; obtain ⟨z0, z1, f0, f1⟩ := h1.cells; have H := Lib.hid h1; clear h1 hb)
    | (go_at_call_of 69 o2; refine (HFQ.out _).mono ?_; rintro e w1 ⟨rfl, hb⟩; have h1 := H.out.after hb; (try clear c0 c1 c2 c3 c4 c5); (try clear z0 z1 f0 f1); obtain ⟨c0, c1, c2, c3, c4, c5⟩ := h1.q.cells; obtain ⟨z0, z1, f0, f1⟩ := h1.cells; have H := Lib.hid h1; clear h1 hb)
    | (go_at_call_of 67 i; refine (HOP.out _ _ _ _ H.out).mono ?_; rintro e w' ⟨rfl, rfl, kc⟩)
    | (go_at_call_of 67 i2; refine (HOQ.out _ _ _ _ H.out).mono ?_; rintro e w' ⟨rfl, rfl, kc2⟩))
  go_ret2
  exact ⟨rfl, H.out.q.below⟩
end
end Go.Proofs.YtejhphnlickjlaaDoor.bl
