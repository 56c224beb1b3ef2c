/-
  The contract of exit of package ir. No condition.
-/
import Derived.Test.YthgbmhpfblgjcaaGreatDoorExB
set_option linter.unusedVariables false
set_option linter.unusedSimpArgs false
namespace Go.Proofs.YthgbmhpfblgjcaaGreatDoor.fl
open Go.RowKit
open M T ty
set_option linter.unusedVariables false
/-- the variables of exit stand -/
structure EnvX (w W : World) (R sl st : Int) (x : Ex) (nb : Int) : Prop where
  below : Below w.heap.size w W
  p : W.heap[w.heap.size]? = some (.cells #[.int .i64 R, .int .i64 sl, .int .i64 st] 177 (0, 0))
  x : W.heap[w.heap.size + 1]? = some (.cells #[.int .i64 x.k, .int .i64 x.a, .int .i64 x.d, .int .i64 x.to, .int .i64 x.els] 50 (0, 0))
  n : W.heap[w.heap.size + 2]? = some (.cells #[.int .i64 nb] 3 (0, 0))
section
variable {w W W' : World} {R sl st nb : Int} {x : Ex}
theorem EnvX.after (h : EnvX w W R sl st x nb) (hb : Below W.heap.size W W') : EnvX w W' R sl st x nb :=
  ⟨h.below.trans (hb.mono h.below.size), (hb.block _ (Array.getElem?_eq_some_iff.1 h.p).1).trans h.p, (hb.block _ (Array.getElem?_eq_some_iff.1 h.x).1).trans h.x, (hb.block _ (Array.getElem?_eq_some_iff.1 h.n).1).trans h.n⟩
theorem EnvX.new (w : World) (R sl st : Int) (x : Ex) (nb : Int) : EnvX w (((w.alloc (.cells #[.int .i64 R, .int .i64 sl, .int .i64 st] 177)).alloc (.cells #[.int .i64 x.k, .int .i64 x.a, .int .i64 x.d, .int .i64 x.to, .int .i64 x.els] 50)).alloc (.cells #[.int .i64 nb] 3)) R sl st x nb := by
  have e1 := heap_alloc_new w (.cells #[.int .i64 R, .int .i64 sl, .int .i64 st] 177)
  have e2 := heap_alloc_new (w.alloc (.cells #[.int .i64 R, .int .i64 sl, .int .i64 st] 177)) (.cells #[.int .i64 x.k, .int .i64 x.a, .int .i64 x.d, .int .i64 x.to, .int .i64 x.els] 50)
  have e3 := heap_alloc_new ((w.alloc (.cells #[.int .i64 R, .int .i64 sl, .int .i64 st] 177)).alloc (.cells #[.int .i64 x.k, .int .i64 x.a, .int .i64 x.d, .int .i64 x.to, .int .i64 x.els] 50)) (.cells #[.int .i64 nb] 3)
  rw [World.size_alloc] at e2
  rw [World.size_alloc, World.size_alloc] at e3
  have b2 : Below (w.heap.size + 1) (w.alloc (.cells #[.int .i64 R, .int .i64 sl, .int .i64 st] 177)) (((w.alloc (.cells #[.int .i64 R, .int .i64 sl, .int .i64 st] 177)).alloc (.cells #[.int .i64 x.k, .int .i64 x.a, .int .i64 x.d, .int .i64 x.to, .int .i64 x.els] 50)).alloc (.cells #[.int .i64 nb] 3)) := ((Below.refl _ _).alloc (by simp) _).alloc (by simp) _
  have b3 : Below (w.heap.size + 1 + 1) ((w.alloc (.cells #[.int .i64 R, .int .i64 sl, .int .i64 st] 177)).alloc (.cells #[.int .i64 x.k, .int .i64 x.a, .int .i64 x.d, .int .i64 x.to, .int .i64 x.els] 50)) (((w.alloc (.cells #[.int .i64 R, .int .i64 sl, .int .i64 st] 177)).alloc (.cells #[.int .i64 x.k, .int .i64 x.a, .int .i64 x.d, .int .i64 x.to, .int .i64 x.els] 50)).alloc (.cells #[.int .i64 nb] 3)) := (Below.refl _ _).alloc (by simp) _
  exact ⟨(((Below.refl _ _).alloc (Nat.le_refl _) _).alloc (by simp) _).alloc (by simp; omega) _, (b2.block _ (by omega)).trans e1, (b3.block _ (by omega)).trans e2, e3⟩
theorem EnvX.cells (h : EnvX w W R sl st x nb) : W.cell? ⟨w.heap.size, 0, none⟩ = some (.int .i64 R) ∧ W.cell? ⟨w.heap.size, 1, none⟩ = some (.int .i64 sl) ∧ W.cell? ⟨w.heap.size, 2, none⟩ = some (.int .i64 st) ∧
    W.cell? ⟨w.heap.size + 1, 0, none⟩ = some (.int .i64 x.k) ∧ W.cell? ⟨w.heap.size + 1, 1, none⟩ = some (.int .i64 x.a) ∧ W.cell? ⟨w.heap.size + 1, 2, none⟩ = some (.int .i64 x.d) ∧ W.cell? ⟨w.heap.size + 1, 3, none⟩ = some (.int .i64 x.to) ∧ W.cell? ⟨w.heap.size + 1, 4, none⟩ = some (.int .i64 x.els) ∧
    W.cell? ⟨w.heap.size + 2, 0, none⟩ = some (.int .i64 nb) :=
  ⟨Go.Joins.cell_of_block h.p 0, Go.Joins.cell_of_block h.p 1, Go.Joins.cell_of_block h.p 2, Go.Joins.cell_of_block h.x 0, Go.Joins.cell_of_block h.x 1, Go.Joins.cell_of_block h.x 2, Go.Joins.cell_of_block h.x 3, Go.Joins.cell_of_block h.x 4, Go.Joins.cell_of_block h.n 0⟩
end
def RegX (w : World) (R sl st : Int) (x : Ex) (nb r : Int) (m b : Bool) : Prop := ∀ W, EnvX w W R sl st x nb → Calls Tryz.prog 137 #[.agg #[.int .i64 R, .int .i64 sl, .int .i64 st], .int .i64 r, .bool true, .bool m] W fun e w' => e = .returned (.bool b) ∧ EnvX w w' R sl st x nb
def ToX (w : World) (R sl st : Int) (x : Ex) (nb n : Int) (b : Bool) : Prop := ∀ W, EnvX w W R sl st x nb → Calls Tryz.prog 144 #[.int .i64 n, .pointer (some ⟨w.heap.size + 2, 0, none⟩)] W fun e w' => e = .returned (.bool b) ∧ EnvX w w' R sl st x nb
theorem regX (w : World) (R sl st : Int) (x : Ex) (nb r : Int) (m : Bool) : RegX w R sl st x nb r m (regB R r true m) := fun W hW => (reg_137 R sl st r true m W).mono fun e w' ⟨p, q⟩ => ⟨p, hW.after q⟩
theorem toX (w : World) (R sl st : Int) (x : Ex) (nb n : Int) : ToX w R sl st x nb n (toB n nb) := fun W hW => (to_144 n nb _ W hW.cells.2.2.2.2.2.2.2.2).mono fun e w' ⟨p, q⟩ => ⟨p, by rw [q]; exact hW⟩
set_option maxRecDepth 20000 in
set_option maxHeartbeats 40000000 in
theorem exit_k1 (R sl st a d to els nb : Int) (w : World) : Calls Tryz.prog 122 #[.agg #[.int .i64 R, .int .i64 sl, .int .i64 st], .agg #[.int .i64 1, .int .i64 a, .int .i64 d, .int .i64 to, .int .i64 els], .int .i64 nb] w fun e w' => e = .returned (.bool (exitB R ⟨1, a, d, to, els⟩ nb)) ∧ Below w.heap.size w w' := by
  unfold exitB
  simp only [show ¬ (2 : Int) = 1 by decide, show ¬ (3 : Int) = 1 by decide, show ¬ (3 : Int) = 2 by decide, show ¬ (4 : Int) = 1 by decide, show ¬ (4 : Int) = 2 by decide, show ¬ (4 : Int) = 3 by decide, if_false, if_true]
  have HR := Lib.hid (fun r m => regX w R sl st ⟨1, a, d, to, els⟩ nb r m)
  have HT := Lib.hid (fun n => toX w R sl st ⟨1, a, d, to, els⟩ nb n)
  by_cases pa : a = -1
  · rw [decide_eq_true pa]
    have qpa : (a == -1) = true := by simpa using pa
    clear pa
    by_cases pd : d = -1
    · rw [decide_eq_true pd]
      have qpd : (d == -1) = true := by simpa using pd
      clear pd
      cases hT : toB to nb with
      | true =>
        by_cases pe : els = 0
        · rw [decide_eq_true pe]
          have qpe : (els == 0) = true := by simpa using pe
          clear pe
          have H := Lib.hid (EnvX.new w R sl st ⟨1, a, d, to, els⟩ nb)
          go_enter Tryz.func122, Tryz.ntmps122
          go_wp2_with (first
            | (go_at_call 137; refine (HR.out _ _ _ H.out).mono ?_; rintro e w1 ⟨rfl, h1⟩; (try rw [hT]); (try clear c0 c1 c2 d0 d1 d2 d3 d4 n0); obtain ⟨c0, c1, c2, d0, d1, d2, d3, d4, n0⟩ := h1.cells; (try clear H); have H := Lib.hid h1; clear h1)
            | (go_at_call 144; refine (HT.out _ _ H.out).mono ?_; rintro e w1 ⟨rfl, h1⟩; (try rw [hT]); (try clear c0 c1 c2 d0 d1 d2 d3 d4 n0); obtain ⟨c0, c1, c2, d0, d1, d2, d3, d4, n0⟩ := h1.cells; (try clear H); have H := Lib.hid h1; clear h1))
          go_ret
          exact ⟨rfl, H.out.below⟩
        · rw [decide_eq_false pe]
          have qpe : (els == 0) = false := by simpa using pe
          clear pe
          have H := Lib.hid (EnvX.new w R sl st ⟨1, a, d, to, els⟩ nb)
          go_enter Tryz.func122, Tryz.ntmps122
          go_wp2_with (first
            | (go_at_call 137; refine (HR.out _ _ _ H.out).mono ?_; rintro e w1 ⟨rfl, h1⟩; (try rw [hT]); (try clear c0 c1 c2 d0 d1 d2 d3 d4 n0); obtain ⟨c0, c1, c2, d0, d1, d2, d3, d4, n0⟩ := h1.cells; (try clear H); have H := Lib.hid h1; clear h1)
            | (go_at_call 144; refine (HT.out _ _ H.out).mono ?_; rintro e w1 ⟨rfl, h1⟩; (try rw [hT]); (try clear c0 c1 c2 d0 d1 d2 d3 d4 n0); obtain ⟨c0, c1, c2, d0, d1, d2, d3, d4, n0⟩ := h1.cells; (try clear H); have H := Lib.hid h1; clear h1))
          go_ret
          exact ⟨rfl, H.out.below⟩
      | false =>
        have H := Lib.hid (EnvX.new w R sl st ⟨1, a, d, to, els⟩ nb)
        go_enter Tryz.func122, Tryz.ntmps122
        go_wp2_with (first
          | (go_at_call 137; refine (HR.out _ _ _ H.out).mono ?_; rintro e w1 ⟨rfl, h1⟩; (try rw [hT]); (try clear c0 c1 c2 d0 d1 d2 d3 d4 n0); obtain ⟨c0, c1, c2, d0, d1, d2, d3, d4, n0⟩ := h1.cells; (try clear H); have H := Lib.hid h1; clear h1)
          | (go_at_call 144; refine (HT.out _ _ H.out).mono ?_; rintro e w1 ⟨rfl, h1⟩; (try rw [hT]); (try clear c0 c1 c2 d0 d1 d2 d3 d4 n0); obtain ⟨c0, c1, c2, d0, d1, d2, d3, d4, n0⟩ := h1.cells; (try clear H); have H := Lib.hid h1; clear h1))
        go_ret
        exact ⟨rfl, H.out.below⟩
    · rw [decide_eq_false pd]
      have qpd : (d == -1) = false := by simpa using pd
      clear pd
      have H := Lib.hid (EnvX.new w R sl st ⟨1, a, d, to, els⟩ nb)
      go_enter Tryz.func122, Tryz.ntmps122
      go_wp2_with (first
        | (go_at_call 137; refine (HR.out _ _ _ H.out).mono ?_; rintro e w1 ⟨rfl, h1⟩; (try clear c0 c1 c2 d0 d1 d2 d3 d4 n0); obtain ⟨c0, c1, c2, d0, d1, d2, d3, d4, n0⟩ := h1.cells; (try clear H); have H := Lib.hid h1; clear h1)
        | (go_at_call 144; refine (HT.out _ _ H.out).mono ?_; rintro e w1 ⟨rfl, h1⟩; (try clear c0 c1 c2 d0 d1 d2 d3 d4 n0); obtain ⟨c0, c1, c2, d0, d1, d2, d3, d4, n0⟩ := h1.cells; (try clear H); have H := Lib.hid h1; clear h1))
      go_ret
      exact ⟨rfl, H.out.below⟩
  · rw [decide_eq_false pa]
    have qpa : (a == -1) = false := by simpa using pa
    clear pa
    have H := Lib.hid (EnvX.new w R sl st ⟨1, a, d, to, els⟩ nb)
    go_enter Tryz.func122, Tryz.ntmps122
    go_wp2_with (first
      | (go_at_call 137; refine (HR.out _ _ _ H.out).mono ?_; rintro e w1 ⟨rfl, h1⟩; (try clear c0 c1 c2 d0 d1 d2 d3 d4 n0); obtain ⟨c0, c1, c2, d0, d1, d2, d3, d4, n0⟩ := h1.cells; (try clear H); have H := Lib.hid h1; clear h1)
      | (go_at_call 144; refine (HT.out _ _ H.out).mono ?_; rintro e w1 ⟨rfl, h1⟩; (try clear c0 c1 c2 d0 d1 d2 d3 d4 n0); obtain ⟨c0, c1, c2, d0, d1, d2, d3, d4, n0⟩ := h1.cells; (try clear H); have H := Lib.hid h1; clear h1))
    go_ret
    exact ⟨rfl, H.out.below⟩
set_option maxRecDepth 20000 in
set_option maxHeartbeats 40000000 in
theorem exit_k2 (R sl st a d to els nb : Int) (w : World) : Calls Tryz.prog 122 #[.agg #[.int .i64 R, .int .i64 sl, .int .i64 st], .agg #[.int .i64 2, .int .i64 a, .int .i64 d, .int .i64 to, .int .i64 els], .int .i64 nb] w fun e w' => e = .returned (.bool (exitB R ⟨2, a, d, to, els⟩ nb)) ∧ Below w.heap.size w w' := by
  unfold exitB
  simp only [show ¬ (2 : Int) = 1 by decide, show ¬ (3 : Int) = 1 by decide, show ¬ (3 : Int) = 2 by decide, show ¬ (4 : Int) = 1 by decide, show ¬ (4 : Int) = 2 by decide, show ¬ (4 : Int) = 3 by decide, if_false, if_true]
  have HR := Lib.hid (fun r m => regX w R sl st ⟨2, a, d, to, els⟩ nb r m)
  have HT := Lib.hid (fun n => toX w R sl st ⟨2, a, d, to, els⟩ nb n)
  cases hA : regB R a true false with
  | true =>
    by_cases pd : d = -1
    · rw [decide_eq_true pd]
      have qpd : (d == -1) = true := by simpa using pd
      clear pd
      cases hT : toB to nb with
      | true =>
        cases hE : toB els nb with
        | true =>
          have H := Lib.hid (EnvX.new w R sl st ⟨2, a, d, to, els⟩ nb)
          go_enter Tryz.func122, Tryz.ntmps122
          go_wp2_with (first
            | (go_at_call 137; refine (HR.out _ _ _ H.out).mono ?_; rintro e w1 ⟨rfl, h1⟩; (try rw [hA]); (try rw [hT]); (try rw [hE]); (try clear c0 c1 c2 d0 d1 d2 d3 d4 n0); obtain ⟨c0, c1, c2, d0, d1, d2, d3, d4, n0⟩ := h1.cells; (try clear H); have H := Lib.hid h1; clear h1)
            | (go_at_call 144; refine (HT.out _ _ H.out).mono ?_; rintro e w1 ⟨rfl, h1⟩; (try rw [hA]); (try rw [hT]); (try rw [hE]); (try clear c0 c1 c2 d0 d1 d2 d3 d4 n0); obtain ⟨c0, c1, c2, d0, d1, d2, d3, d4, n0⟩ := h1.cells; (try clear H); have H := Lib.hid h1; clear h1))
          go_ret
          exact ⟨rfl, H.out.below⟩
        | false =>
          have H := Lib.hid (EnvX.new w R sl st ⟨2, a, d, to, els⟩ nb)
          go_enter Tryz.func122, Tryz.ntmps122
          go_wp2_with (first
            | (go_at_call 137; refine (HR.out _ _ _ H.out).mono ?_; rintro e w1 ⟨rfl, h1⟩; (try rw [hA]); (try rw [hT]); (try rw [hE]); (try clear c0 c1 c2 d0 d1 d2 d3 d4 n0); obtain ⟨c0, c1, c2, d0, d1, d2, d3, d4, n0⟩ := h1.cells; (try clear H); have H := Lib.hid h1; clear h1)
            | (go_at_call 144; refine (HT.out _ _ H.out).mono ?_; rintro e w1 ⟨rfl, h1⟩; (try rw [hA]); (try rw [hT]); (try rw [hE]); (try clear c0 c1 c2 d0 d1 d2 d3 d4 n0); obtain ⟨c0, c1, c2, d0, d1, d2, d3, d4, n0⟩ := h1.cells; (try clear H); have H := Lib.hid h1; clear h1))
          go_ret
          exact ⟨rfl, H.out.below⟩
      | false =>
        have H := Lib.hid (EnvX.new w R sl st ⟨2, a, d, to, els⟩ nb)
        go_enter Tryz.func122, Tryz.ntmps122
        go_wp2_with (first
          | (go_at_call 137; refine (HR.out _ _ _ H.out).mono ?_; rintro e w1 ⟨rfl, h1⟩; (try rw [hA]); (try rw [hT]); (try clear c0 c1 c2 d0 d1 d2 d3 d4 n0); obtain ⟨c0, c1, c2, d0, d1, d2, d3, d4, n0⟩ := h1.cells; (try clear H); have H := Lib.hid h1; clear h1)
          | (go_at_call 144; refine (HT.out _ _ H.out).mono ?_; rintro e w1 ⟨rfl, h1⟩; (try rw [hA]); (try rw [hT]); (try clear c0 c1 c2 d0 d1 d2 d3 d4 n0); obtain ⟨c0, c1, c2, d0, d1, d2, d3, d4, n0⟩ := h1.cells; (try clear H); have H := Lib.hid h1; clear h1))
        go_ret
        exact ⟨rfl, H.out.below⟩
    · rw [decide_eq_false pd]
      have qpd : (d == -1) = false := by simpa using pd
      clear pd
      have H := Lib.hid (EnvX.new w R sl st ⟨2, a, d, to, els⟩ nb)
      go_enter Tryz.func122, Tryz.ntmps122
      go_wp2_with (first
        | (go_at_call 137; refine (HR.out _ _ _ H.out).mono ?_; rintro e w1 ⟨rfl, h1⟩; (try rw [hA]); (try clear c0 c1 c2 d0 d1 d2 d3 d4 n0); obtain ⟨c0, c1, c2, d0, d1, d2, d3, d4, n0⟩ := h1.cells; (try clear H); have H := Lib.hid h1; clear h1)
        | (go_at_call 144; refine (HT.out _ _ H.out).mono ?_; rintro e w1 ⟨rfl, h1⟩; (try rw [hA]); (try clear c0 c1 c2 d0 d1 d2 d3 d4 n0); obtain ⟨c0, c1, c2, d0, d1, d2, d3, d4, n0⟩ := h1.cells; (try clear H); have H := Lib.hid h1; clear h1))
      go_ret
      exact ⟨rfl, H.out.below⟩
  | false =>
    have H := Lib.hid (EnvX.new w R sl st ⟨2, a, d, to, els⟩ nb)
    go_enter Tryz.func122, Tryz.ntmps122
    go_wp2_with (first
      | (go_at_call 137; refine (HR.out _ _ _ H.out).mono ?_; rintro e w1 ⟨rfl, h1⟩; (try rw [hA]); (try clear c0 c1 c2 d0 d1 d2 d3 d4 n0); obtain ⟨c0, c1, c2, d0, d1, d2, d3, d4, n0⟩ := h1.cells; (try clear H); have H := Lib.hid h1; clear h1)
      | (go_at_call 144; refine (HT.out _ _ H.out).mono ?_; rintro e w1 ⟨rfl, h1⟩; (try rw [hA]); (try clear c0 c1 c2 d0 d1 d2 d3 d4 n0); obtain ⟨c0, c1, c2, d0, d1, d2, d3, d4, n0⟩ := h1.cells; (try clear H); have H := Lib.hid h1; clear h1))
    go_ret
    exact ⟨rfl, H.out.below⟩
set_option maxRecDepth 20000 in
set_option maxHeartbeats 40000000 in
theorem exit_k3 (R sl st a d to els nb : Int) (w : World) : Calls Tryz.prog 122 #[.agg #[.int .i64 R, .int .i64 sl, .int .i64 st], .agg #[.int .i64 3, .int .i64 a, .int .i64 d, .int .i64 to, .int .i64 els], .int .i64 nb] w fun e w' => e = .returned (.bool (exitB R ⟨3, a, d, to, els⟩ nb)) ∧ Below w.heap.size w w' := by
  unfold exitB
  simp only [show ¬ (2 : Int) = 1 by decide, show ¬ (3 : Int) = 1 by decide, show ¬ (3 : Int) = 2 by decide, show ¬ (4 : Int) = 1 by decide, show ¬ (4 : Int) = 2 by decide, show ¬ (4 : Int) = 3 by decide, if_false, if_true]
  have HR := Lib.hid (fun r m => regX w R sl st ⟨3, a, d, to, els⟩ nb r m)
  have HT := Lib.hid (fun n => toX w R sl st ⟨3, a, d, to, els⟩ nb n)
  cases hA : regB R a true true with
  | true =>
    by_cases pd : d = -1
    · rw [decide_eq_true pd]
      have qpd : (d == -1) = true := by simpa using pd
      clear pd
      by_cases pt : to = 0
      · rw [decide_eq_true pt]
        have qpt : (to == 0) = true := by simpa using pt
        clear pt
        by_cases pe : els = 0
        · rw [decide_eq_true pe]
          have qpe : (els == 0) = true := by simpa using pe
          clear pe
          have H := Lib.hid (EnvX.new w R sl st ⟨3, a, d, to, els⟩ nb)
          go_enter Tryz.func122, Tryz.ntmps122
          go_wp2_with (first
            | (go_at_call 137; refine (HR.out _ _ _ H.out).mono ?_; rintro e w1 ⟨rfl, h1⟩; (try rw [hA]); (try clear c0 c1 c2 d0 d1 d2 d3 d4 n0); obtain ⟨c0, c1, c2, d0, d1, d2, d3, d4, n0⟩ := h1.cells; (try clear H); have H := Lib.hid h1; clear h1)
            | (go_at_call 144; refine (HT.out _ _ H.out).mono ?_; rintro e w1 ⟨rfl, h1⟩; (try rw [hA]); (try clear c0 c1 c2 d0 d1 d2 d3 d4 n0); obtain ⟨c0, c1, c2, d0, d1, d2, d3, d4, n0⟩ := h1.cells; (try clear H); have H := Lib.hid h1; clear h1))
          go_ret
          exact ⟨rfl, H.out.below⟩
        · rw [decide_eq_false pe]
          have qpe : (els == 0) = false := by simpa using pe
          clear pe
          have H := Lib.hid (EnvX.new w R sl st ⟨3, a, d, to, els⟩ nb)
          go_enter Tryz.func122, Tryz.ntmps122
          go_wp2_with (first
            | (go_at_call 137; refine (HR.out _ _ _ H.out).mono ?_; rintro e w1 ⟨rfl, h1⟩; (try rw [hA]); (try clear c0 c1 c2 d0 d1 d2 d3 d4 n0); obtain ⟨c0, c1, c2, d0, d1, d2, d3, d4, n0⟩ := h1.cells; (try clear H); have H := Lib.hid h1; clear h1)
            | (go_at_call 144; refine (HT.out _ _ H.out).mono ?_; rintro e w1 ⟨rfl, h1⟩; (try rw [hA]); (try clear c0 c1 c2 d0 d1 d2 d3 d4 n0); obtain ⟨c0, c1, c2, d0, d1, d2, d3, d4, n0⟩ := h1.cells; (try clear H); have H := Lib.hid h1; clear h1))
          go_ret
          exact ⟨rfl, H.out.below⟩
      · rw [decide_eq_false pt]
        have qpt : (to == 0) = false := by simpa using pt
        clear pt
        have H := Lib.hid (EnvX.new w R sl st ⟨3, a, d, to, els⟩ nb)
        go_enter Tryz.func122, Tryz.ntmps122
        go_wp2_with (first
          | (go_at_call 137; refine (HR.out _ _ _ H.out).mono ?_; rintro e w1 ⟨rfl, h1⟩; (try rw [hA]); (try clear c0 c1 c2 d0 d1 d2 d3 d4 n0); obtain ⟨c0, c1, c2, d0, d1, d2, d3, d4, n0⟩ := h1.cells; (try clear H); have H := Lib.hid h1; clear h1)
          | (go_at_call 144; refine (HT.out _ _ H.out).mono ?_; rintro e w1 ⟨rfl, h1⟩; (try rw [hA]); (try clear c0 c1 c2 d0 d1 d2 d3 d4 n0); obtain ⟨c0, c1, c2, d0, d1, d2, d3, d4, n0⟩ := h1.cells; (try clear H); have H := Lib.hid h1; clear h1))
        go_ret
        exact ⟨rfl, H.out.below⟩
    · rw [decide_eq_false pd]
      have qpd : (d == -1) = false := by simpa using pd
      clear pd
      have H := Lib.hid (EnvX.new w R sl st ⟨3, a, d, to, els⟩ nb)
      go_enter Tryz.func122, Tryz.ntmps122
      go_wp2_with (first
        | (go_at_call 137; refine (HR.out _ _ _ H.out).mono ?_; rintro e w1 ⟨rfl, h1⟩; (try rw [hA]); (try clear c0 c1 c2 d0 d1 d2 d3 d4 n0); obtain ⟨c0, c1, c2, d0, d1, d2, d3, d4, n0⟩ := h1.cells; (try clear H); have H := Lib.hid h1; clear h1)
        | (go_at_call 144; refine (HT.out _ _ H.out).mono ?_; rintro e w1 ⟨rfl, h1⟩; (try rw [hA]); (try clear c0 c1 c2 d0 d1 d2 d3 d4 n0); obtain ⟨c0, c1, c2, d0, d1, d2, d3, d4, n0⟩ := h1.cells; (try clear H); have H := Lib.hid h1; clear h1))
      go_ret
      exact ⟨rfl, H.out.below⟩
  | false =>
    have H := Lib.hid (EnvX.new w R sl st ⟨3, a, d, to, els⟩ nb)
    go_enter Tryz.func122, Tryz.ntmps122
    go_wp2_with (first
      | (go_at_call 137; refine (HR.out _ _ _ H.out).mono ?_; rintro e w1 ⟨rfl, h1⟩; (try rw [hA]); (try clear c0 c1 c2 d0 d1 d2 d3 d4 n0); obtain ⟨c0, c1, c2, d0, d1, d2, d3, d4, n0⟩ := h1.cells; (try clear H); have H := Lib.hid h1; clear h1)
      | (go_at_call 144; refine (HT.out _ _ H.out).mono ?_; rintro e w1 ⟨rfl, h1⟩; (try rw [hA]); (try clear c0 c1 c2 d0 d1 d2 d3 d4 n0); obtain ⟨c0, c1, c2, d0, d1, d2, d3, d4, n0⟩ := h1.cells; (try clear H); have H := Lib.hid h1; clear h1))
    go_ret
    exact ⟨rfl, H.out.below⟩
set_option maxRecDepth 20000 in
set_option maxHeartbeats 40000000 in
theorem exit_k4 (R sl st a d to els nb : Int) (w : World) : Calls Tryz.prog 122 #[.agg #[.int .i64 R, .int .i64 sl, .int .i64 st], .agg #[.int .i64 4, .int .i64 a, .int .i64 d, .int .i64 to, .int .i64 els], .int .i64 nb] w fun e w' => e = .returned (.bool (exitB R ⟨4, a, d, to, els⟩ nb)) ∧ Below w.heap.size w w' := by
  unfold exitB
  simp only [show ¬ (2 : Int) = 1 by decide, show ¬ (3 : Int) = 1 by decide, show ¬ (3 : Int) = 2 by decide, show ¬ (4 : Int) = 1 by decide, show ¬ (4 : Int) = 2 by decide, show ¬ (4 : Int) = 3 by decide, if_false, if_true]
  have HR := Lib.hid (fun r m => regX w R sl st ⟨4, a, d, to, els⟩ nb r m)
  have HT := Lib.hid (fun n => toX w R sl st ⟨4, a, d, to, els⟩ nb n)
  cases hA : regB R a true false with
  | true =>
    cases hD : regB R d true false with
    | true =>
      cases hT : toB to nb with
      | true =>
        cases hE : toB els nb with
        | true =>
          by_cases pn : to ≠ els
          · rw [decide_eq_true pn]
            have qpn : (to != els) = true := by simpa using pn
            clear pn
            have H := Lib.hid (EnvX.new w R sl st ⟨4, a, d, to, els⟩ nb)
            go_enter Tryz.func122, Tryz.ntmps122
            go_wp2_with (first
              | (go_at_call 137; refine (HR.out _ _ _ H.out).mono ?_; rintro e w1 ⟨rfl, h1⟩; (try rw [hA]); (try rw [hD]); (try rw [hT]); (try rw [hE]); (try clear c0 c1 c2 d0 d1 d2 d3 d4 n0); obtain ⟨c0, c1, c2, d0, d1, d2, d3, d4, n0⟩ := h1.cells; (try clear H); have H := Lib.hid h1; clear h1)
              | (go_at_call 144; refine (HT.out _ _ H.out).mono ?_; rintro e w1 ⟨rfl, h1⟩; (try rw [hA]); (try rw [hD]); (try rw [hT]); (try rw [hE]); (try clear c0 c1 c2 d0 d1 d2 d3 d4 n0); obtain ⟨c0, c1, c2, d0, d1, d2, d3, d4, n0⟩ := h1.cells; (try clear H); have H := Lib.hid h1; clear h1))
            go_ret
            exact ⟨rfl, H.out.below⟩
          · rw [decide_eq_false pn]
            have qpn : (to != els) = false := by simpa using pn
            clear pn
            have H := Lib.hid (EnvX.new w R sl st ⟨4, a, d, to, els⟩ nb)
            go_enter Tryz.func122, Tryz.ntmps122
            go_wp2_with (first
              | (go_at_call 137; refine (HR.out _ _ _ H.out).mono ?_; rintro e w1 ⟨rfl, h1⟩; (try rw [hA]); (try rw [hD]); (try rw [hT]); (try rw [hE]); (try clear c0 c1 c2 d0 d1 d2 d3 d4 n0); obtain ⟨c0, c1, c2, d0, d1, d2, d3, d4, n0⟩ := h1.cells; (try clear H); have H := Lib.hid h1; clear h1)
              | (go_at_call 144; refine (HT.out _ _ H.out).mono ?_; rintro e w1 ⟨rfl, h1⟩; (try rw [hA]); (try rw [hD]); (try rw [hT]); (try rw [hE]); (try clear c0 c1 c2 d0 d1 d2 d3 d4 n0); obtain ⟨c0, c1, c2, d0, d1, d2, d3, d4, n0⟩ := h1.cells; (try clear H); have H := Lib.hid h1; clear h1))
            go_ret
            exact ⟨rfl, H.out.below⟩
        | false =>
          have H := Lib.hid (EnvX.new w R sl st ⟨4, a, d, to, els⟩ nb)
          go_enter Tryz.func122, Tryz.ntmps122
          go_wp2_with (first
            | (go_at_call 137; refine (HR.out _ _ _ H.out).mono ?_; rintro e w1 ⟨rfl, h1⟩; (try rw [hA]); (try rw [hD]); (try rw [hT]); (try rw [hE]); (try clear c0 c1 c2 d0 d1 d2 d3 d4 n0); obtain ⟨c0, c1, c2, d0, d1, d2, d3, d4, n0⟩ := h1.cells; (try clear H); have H := Lib.hid h1; clear h1)
            | (go_at_call 144; refine (HT.out _ _ H.out).mono ?_; rintro e w1 ⟨rfl, h1⟩; (try rw [hA]); (try rw [hD]); (try rw [hT]); (try rw [hE]); (try clear c0 c1 c2 d0 d1 d2 d3 d4 n0); obtain ⟨c0, c1, c2, d0, d1, d2, d3, d4, n0⟩ := h1.cells; (try clear H); have H := Lib.hid h1; clear h1))
          go_ret
          exact ⟨rfl, H.out.below⟩
      | false =>
        have H := Lib.hid (EnvX.new w R sl st ⟨4, a, d, to, els⟩ nb)
        go_enter Tryz.func122, Tryz.ntmps122
        go_wp2_with (first
          | (go_at_call 137; refine (HR.out _ _ _ H.out).mono ?_; rintro e w1 ⟨rfl, h1⟩; (try rw [hA]); (try rw [hD]); (try rw [hT]); (try clear c0 c1 c2 d0 d1 d2 d3 d4 n0); obtain ⟨c0, c1, c2, d0, d1, d2, d3, d4, n0⟩ := h1.cells; (try clear H); have H := Lib.hid h1; clear h1)
          | (go_at_call 144; refine (HT.out _ _ H.out).mono ?_; rintro e w1 ⟨rfl, h1⟩; (try rw [hA]); (try rw [hD]); (try rw [hT]); (try clear c0 c1 c2 d0 d1 d2 d3 d4 n0); obtain ⟨c0, c1, c2, d0, d1, d2, d3, d4, n0⟩ := h1.cells; (try clear H); have H := Lib.hid h1; clear h1))
        go_ret
        exact ⟨rfl, H.out.below⟩
    | false =>
      have H := Lib.hid (EnvX.new w R sl st ⟨4, a, d, to, els⟩ nb)
      go_enter Tryz.func122, Tryz.ntmps122
      go_wp2_with (first
        | (go_at_call 137; refine (HR.out _ _ _ H.out).mono ?_; rintro e w1 ⟨rfl, h1⟩; (try rw [hA]); (try rw [hD]); (try clear c0 c1 c2 d0 d1 d2 d3 d4 n0); obtain ⟨c0, c1, c2, d0, d1, d2, d3, d4, n0⟩ := h1.cells; (try clear H); have H := Lib.hid h1; clear h1)
        | (go_at_call 144; refine (HT.out _ _ H.out).mono ?_; rintro e w1 ⟨rfl, h1⟩; (try rw [hA]); (try rw [hD]); (try clear c0 c1 c2 d0 d1 d2 d3 d4 n0); obtain ⟨c0, c1, c2, d0, d1, d2, d3, d4, n0⟩ := h1.cells; (try clear H); have H := Lib.hid h1; clear h1))
      go_ret
      exact ⟨rfl, H.out.below⟩
  | false =>
    have H := Lib.hid (EnvX.new w R sl st ⟨4, a, d, to, els⟩ nb)
    go_enter Tryz.func122, Tryz.ntmps122
    go_wp2_with (first
      | (go_at_call 137; refine (HR.out _ _ _ H.out).mono ?_; rintro e w1 ⟨rfl, h1⟩; (try rw [hA]); (try clear c0 c1 c2 d0 d1 d2 d3 d4 n0); obtain ⟨c0, c1, c2, d0, d1, d2, d3, d4, n0⟩ := h1.cells; (try clear H); have H := Lib.hid h1; clear h1)
      | (go_at_call 144; refine (HT.out _ _ H.out).mono ?_; rintro e w1 ⟨rfl, h1⟩; (try rw [hA]); (try clear c0 c1 c2 d0 d1 d2 d3 d4 n0); obtain ⟨c0, c1, c2, d0, d1, d2, d3, d4, n0⟩ := h1.cells; (try clear H); have H := Lib.hid h1; clear h1))
    go_ret
    exact ⟨rfl, H.out.below⟩
set_option maxRecDepth 20000 in
set_option maxHeartbeats 40000000 in
theorem exit_122 (R sl st : Int) (x : Ex) (nb : Int) (w : World) : Calls Tryz.prog 122 #[.agg #[.int .i64 R, .int .i64 sl, .int .i64 st], exV x, .int .i64 nb] w fun e w' => e = .returned (.bool (exitB R x nb)) ∧ Below w.heap.size w w' := by
  obtain ⟨k, a, d, to, els⟩ := x
  unfold exV
  by_cases h1 : k = 1
  · subst h1; exact exit_k1 R sl st a d to els nb w
  · by_cases h2 : k = 2
    · subst h2; exact exit_k2 R sl st a d to els nb w
    · by_cases h3 : k = 3
      · subst h3; exact exit_k3 R sl st a d to els nb w
      · by_cases h4 : k = 4
        · subst h4; exact exit_k4 R sl st a d to els nb w
        · have hx : exitB R ⟨k, a, d, to, els⟩ nb = false := by simp [exitB, h1, h2, h3, h4]
          rw [hx]
          have e1 : (k == 1) = false := by simpa using h1
          have e2 : (k == 2) = false := by simpa using h2
          have e3 : (k == 3) = false := by simpa using h3
          have e4 : (k == 4) = false := by simpa using h4
          have H := Lib.hid (EnvX.new w R sl st ⟨k, a, d, to, els⟩ nb)
          clear h1 h2 h3 h4 hx
          go_enter Tryz.func122, Tryz.ntmps122
          go_wp2_with fail
          go_ret
          exact ⟨rfl, H.out.below⟩
end Go.Proofs.YthgbmhpfblgjcaaGreatDoor.fl
