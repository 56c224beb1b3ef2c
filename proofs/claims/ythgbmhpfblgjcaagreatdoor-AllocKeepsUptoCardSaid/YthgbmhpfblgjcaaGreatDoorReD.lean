/-
  The reference's Reads, Rising at nothing, edges, reached, Reached, list at the one sample. Condition: the sample stands.
-/
import Derived.Test.YthgbmhpfblgjcaaGreatDoorTwO
import Derived.LoopN
import Derived.Deep.QuietTactic
import Derived.BigQuiet
set_option linter.unusedVariables false
set_option linter.unusedSimpArgs false
namespace Go.Proofs.YthgbmhpfblgjcaaGreatDoor.fl
open Go.RowKit Go.Shelf
open M T ty
set_option linter.unusedVariables false
def smOp : Op := ⟨3, 2, 0, 1, 0, ⟨#[]⟩, []⟩
def smEx : Ex := ⟨3, 2, -1, 0, 0⟩
def smBl : Bl := ⟨[smOp], smEx⟩
def smF : Fn := ⟨⟨#[102]⟩, 2, 3, [], [smBl]⟩
set_option maxRecDepth 20000 in
theorem uses_113 (w : World) : Calls Tryz.prog 113 #[.int .i64 3] w fun e w' => e = .returned (.string ⟨#[100, 97, 98]⟩) ∧ w' = w := by
  go_enter Tryz.func113, Tryz.ntmps113
  go_wp2_with fail
  go_ret
  exact ⟨rfl, rfl⟩
theorem in_a (w : World) : Calls Tryz.prog 114 #[.string ⟨#[100, 97, 98]⟩, .int .u8 97] w fun e w' => e = .returned (.bool true) ∧ w' = w := by
  go_enter Tryz.func114, Tryz.ntmps114
  go_wp2_with fail
  refine wp_loop_rounds 4 ?_
  repeat any_goals (rw [rounds_succ]; go_wp2_with fail)
  go_ret
  exact ⟨rfl, rfl⟩
theorem in_b (w : World) : Calls Tryz.prog 114 #[.string ⟨#[100, 97, 98]⟩, .int .u8 98] w fun e w' => e = .returned (.bool true) ∧ w' = w := by
  go_enter Tryz.func114, Tryz.ntmps114
  go_wp2_with fail
  refine wp_loop_rounds 4 ?_
  repeat any_goals (rw [rounds_succ]; go_wp2_with fail)
  go_ret
  exact ⟨rfl, rfl⟩
theorem in_d (w : World) : Calls Tryz.prog 114 #[.string ⟨#[100, 97, 98]⟩, .int .u8 100] w fun e w' => e = .returned (.bool true) ∧ w' = w := by
  go_enter Tryz.func114, Tryz.ntmps114
  go_wp2_with fail
  refine wp_loop_rounds 4 ?_
  repeat any_goals (rw [rounds_succ]; go_wp2_with fail)
  go_ret
  exact ⟨rfl, rfl⟩
theorem in_r (w : World) : Calls Tryz.prog 114 #[.string ⟨#[100, 97, 98]⟩, .int .u8 114] w fun e w' => e = .returned (.bool false) ∧ w' = w := by
  go_enter Tryz.func114, Tryz.ntmps114
  go_wp2_with fail
  refine wp_loop_rounds 4 ?_
  repeat any_goals (rw [rounds_succ]; go_wp2_with fail)
  go_ret
  exact ⟨rfl, rfl⟩
theorem register_112 (n R : Int) (w : World) (h0 : 0 ≤ n) (h1 : n < R) : Calls Tryz.prog 112 #[.bool true, .int .i64 n, .int .i64 R] w fun e w' => e = .returned (.bool true) ∧ w' = w := by
  go_enter Tryz.func112, Tryz.ntmps112
  go_wp2_with fail
  go_ret
  exact ⟨rfl, rfl⟩
theorem imm_115 (w : World) : Calls Tryz.prog 115 #[.int .i64 3, .int .i64 0] w fun e w' => e = .returned (.bool true) ∧ w' = w := by
  go_enter Tryz.func115, Tryz.ntmps115
  go_wp2_with fail
  go_ret
  exact ⟨rfl, rfl⟩
theorem in_any (c : Int) (w : World) (hc : c = 97 ∨ c = 98 ∨ c = 100) : Calls Tryz.prog 114 #[.string ⟨#[100, 97, 98]⟩, .int .u8 c] w fun e w' => e = .returned (.bool true) ∧ w' = w := by
  rcases hc with rfl | rfl | rfl
  · exact in_a w
  · exact in_b w
  · exact in_d w
def exV9 : Value := .agg #[.int .i64 3, .int .i64 2, .int .i64 (-1), .int .i64 0, .int .i64 0]
set_option maxRecDepth 20000 in
set_option maxHeartbeats 2000000 in
theorem exit_69 (w : World) : Calls Tryz.prog 69 #[exV9, .int .i64 3, .int .i64 1] w fun e w' => e = .returned (.bool true) ∧ Below w.heap.size w w' := by
  unfold exV9
  go_enter Tryz.func69, Tryz.ntmps69
  go_wp2_with fail
  go_ret
  exact ⟨rfl, (Below.refl _ _).alloc (Nat.le_refl _) _⟩
end Go.Proofs.YthgbmhpfblgjcaaGreatDoor.fl
namespace Go.Proofs.YthgbmhpfblgjcaaGreatDoor.fl
open Go.RowKit Go.Shelf
open M T ty
set_option linter.unusedVariables false
def opV9 : Value := .agg #[.int .i64 3, .int .i64 2, .int .i64 0, .int .i64 1, .int .i64 0, .string ⟨#[]⟩, .slice none 0 0]
set_option maxRecDepth 20000 in
set_option maxHeartbeats 4000000 in
theorem Op_70 (R : Int) (w : World) (hR : 3 ≤ R) : Calls Tryz.prog 70 #[opV9, .int .i64 R] w fun e w' => e = .returned (.bool true) ∧ Below w.heap.size w w' := by
  unfold opV9
  have hb := (Below.refl w.heap.size w).alloc (Nat.le_refl _) (.cells #[.int .i64 3, .int .i64 2, .int .i64 0, .int .i64 1, .int .i64 0, .string ⟨#[]⟩, .slice none 0 0] 72)
  have HB := Lib.hid hb
  clear hb
  go_enter Tryz.func70, Tryz.ntmps70
  go_wp2_with (go_at_call 113; refine (uses_113 _).mono ?_; rintro e w1 ⟨rfl, rfl⟩)
  go_quiet ((first | (go_at_call 114; exact Calls.quiet_of_same (in_any _ _ (by decide))) | (go_at_call 112; exact Calls.quiet_of_same (register_112 _ _ _ (by omega) (by omega))) | (go_at_call 115; exact Calls.quiet_of_same (imm_115 _))))
  go_wp2_with fail
  have hbx : ((w.alloc (.cells #[.int .i64 3, .int .i64 2, .int .i64 0, .int .i64 1, .int .i64 0, .string ⟨#[]⟩, .slice none 0 0] 72)).drewN nq).heap[w.heap.size]? = some (.cells #[.int .i64 3, .int .i64 2, .int .i64 0, .int .i64 1, .int .i64 0, .string ⟨#[]⟩, .slice none 0 0] 72 (0, 0)) := heap_alloc_new w _
  have HB1 := Lib.hid (below_drewN' (q := nq) HB.out)
  clear HB
  generalize (w.alloc (.cells #[.int .i64 3, .int .i64 2, .int .i64 0, .int .i64 1, .int .i64 0, .string ⟨#[]⟩, .slice none 0 0] 72)).drewN nq = W1 at *
  have c0 := Go.Joins.cell_of_block hbx 0
  have c1 := Go.Joins.cell_of_block hbx 1
  have c5 := Go.Joins.cell_of_block hbx 5
  have c6 := Go.Joins.cell_of_block hbx 6
  clear hbx
  go_quiet ((first | (go_at_call 114; exact Calls.quiet_of_same (in_any _ _ (by decide))) | (go_at_call 112; exact Calls.quiet_of_same (register_112 _ _ _ (by omega) (by omega)))))
  have HB2 := Lib.hid (below_drewN' (q := nq) HB1.out)
  go_wp2_with (go_at_call 114; refine (in_r _).mono ?_; rintro e w1 ⟨rfl, rfl⟩)
  refine wp_loop_rounds 1 ?_
  repeat any_goals (rw [rounds_succ]; go_wp2_with fail)
  go_ret
  exact ⟨rfl, HB2.out⟩
end Go.Proofs.YthgbmhpfblgjcaaGreatDoor.fl
namespace Go.Proofs.YthgbmhpfblgjcaaGreatDoor.fl
open Go.RowKit Go.Shelf
open M T ty
set_option linter.unusedVariables false
/-- the sample stands -/
structure Sm (W : World) (bb ob : Nat) : Prop where
  b : W.heap[bb]? = some (.cells #[.slice (some ⟨ob, 0, none⟩) 1 1, .int .i64 3, .int .i64 2, .int .i64 (-1), .int .i64 0, .int .i64 0] 52 (0, 0))
  o : W.heap[ob]? = some (.cells #[.int .i64 3, .int .i64 2, .int .i64 0, .int .i64 1, .int .i64 0, .string ⟨#[]⟩, .slice none 0 0] 72 (0, 0))
def smV (bb : Nat) : Value := .agg #[.string ⟨#[102]⟩, .int .i64 2, .int .i64 3, .slice none 0 0, .slice (some ⟨bb, 0, none⟩) 1 1]
section
variable {W W' : World} {bb ob : Nat}
theorem Sm.bl (h : Sm W bb ob) : bb < W.heap.size := (Array.getElem?_eq_some_iff.1 h.b).1
theorem Sm.ol (h : Sm W bb ob) : ob < W.heap.size := (Array.getElem?_eq_some_iff.1 h.o).1
theorem Sm.after (h : Sm W bb ob) (hb : Below W.heap.size W W') : Sm W' bb ob := ⟨(hb.block bb h.bl).trans h.b, (hb.block ob h.ol).trans h.o⟩
theorem Sm.alloc (h : Sm W bb ob) (o : Obj) : Sm (W.alloc o) bb ob := h.after ((Below.refl _ _).alloc (Nat.le_refl _) _)
theorem Sm.bcells (h : Sm W bb ob) : W.cell? ⟨bb, 0, none⟩ = some (.slice (some ⟨ob, 0, none⟩) 1 1) ∧ W.cell? ⟨bb, 1, none⟩ = some (.int .i64 3) ∧ W.cell? ⟨bb, 2, none⟩ = some (.int .i64 2) ∧ W.cell? ⟨bb, 3, none⟩ = some (.int .i64 (-1)) ∧ W.cell? ⟨bb, 4, none⟩ = some (.int .i64 0) ∧ W.cell? ⟨bb, 5, none⟩ = some (.int .i64 0) :=
  ⟨Go.Joins.cell_of_block h.b 0, Go.Joins.cell_of_block h.b 1, Go.Joins.cell_of_block h.b 2, Go.Joins.cell_of_block h.b 3, Go.Joins.cell_of_block h.b 4, Go.Joins.cell_of_block h.b 5⟩
theorem Sm.ocells (h : Sm W bb ob) : W.cell? ⟨ob, 0, none⟩ = some (.int .i64 3) ∧ W.cell? ⟨ob, 1, none⟩ = some (.int .i64 2) ∧ W.cell? ⟨ob, 2, none⟩ = some (.int .i64 0) ∧ W.cell? ⟨ob, 3, none⟩ = some (.int .i64 1) ∧ W.cell? ⟨ob, 4, none⟩ = some (.int .i64 0) ∧ W.cell? ⟨ob, 5, none⟩ = some (.string ⟨#[]⟩) ∧ W.cell? ⟨ob, 6, none⟩ = some (.slice none 0 0) :=
  ⟨Go.Joins.cell_of_block h.o 0, Go.Joins.cell_of_block h.o 1, Go.Joins.cell_of_block h.o 2, Go.Joins.cell_of_block h.o 3, Go.Joins.cell_of_block h.o 4, Go.Joins.cell_of_block h.o 5, Go.Joins.cell_of_block h.o 6⟩
end
set_option maxRecDepth 20000 in
set_option maxHeartbeats 4000000 in
theorem alone_71 (bb ob : Nat) (w : World) (h : Sm w bb ob) : Calls Tryz.prog 71 #[smV bb] w fun e w' => e = .returned (.bool true) ∧ Below w.heap.size w w' := by
  have hbl := h.bl
  obtain ⟨b0, b1, b2, b3, b4, b5⟩ := h.bcells
  have HB := Lib.hid (((Below.refl w.heap.size w).alloc (Nat.le_refl _) (.cells #[.string ⟨#[102]⟩, .int .i64 2, .int .i64 3, .slice none 0 0, .slice (some ⟨bb, 0, none⟩) 1 1] 25)).alloc (by simp) (.cells #[.int .i64 3, .int .i64 2, .int .i64 (-1), .int .i64 0, .int .i64 0] 50))
  clear h
  unfold smV
  go_enter Tryz.func71, Tryz.ntmps71
  go_wp2_with fail
  refine wp_loop_rounds 2 ?_
  repeat any_goals (rw [rounds_succ]; go_wp2_with fail)
  go_ret
  exact ⟨rfl, HB.out⟩
theorem Exits_73 (w : World) : Calls Tryz.prog 73 #[exV9] w fun e w' => ∃ A, e = .returned (.tuple #[.slice (some A) 1 1, .slice none 0 0]) ∧ A = ⟨w.heap.size + 1, 0, none⟩ ∧ w' = (w.alloc (.cells #[.int .i64 3, .int .i64 2, .int .i64 (-1), .int .i64 0, .int .i64 0] 50)).alloc (.cells #[.int .i64 2] 3) := by
  unfold exV9
  go_enter Tryz.func73, Tryz.ntmps73
  go_wp2_with fail
  go_ret2
  exact ⟨_, rfl, rfl, rfl⟩
/-- the sample stands, and a box of it -/
structure SmB (W : World) (fb bb ob : Nat) : Prop where
  sm : Sm W bb ob
  box : W.heap[fb]? = some (.cells #[.string ⟨#[102]⟩, .int .i64 2, .int .i64 3, .slice none 0 0, .slice (some ⟨bb, 0, none⟩) 1 1] 25 (0, 0))
section
variable {W W' : World} {fb bb ob : Nat}
theorem SmB.fl (h : SmB W fb bb ob) : fb < W.heap.size := (Array.getElem?_eq_some_iff.1 h.box).1
theorem SmB.after (h : SmB W fb bb ob) (hb : Below W.heap.size W W') : SmB W' fb bb ob := ⟨h.sm.after hb, (hb.block fb h.fl).trans h.box⟩
theorem SmB.alloc (h : SmB W fb bb ob) (o : Obj) : SmB (W.alloc o) fb bb ob := h.after ((Below.refl _ _).alloc (Nat.le_refl _) _)
theorem SmB.drew (h : SmB W fb bb ob) : SmB W.drew fb bb ob := h.after ((Below.refl _ _).drew)
theorem SmB.cells (h : SmB W fb bb ob) : W.cell? ⟨fb, 0, none⟩ = some (.string ⟨#[102]⟩) ∧ W.cell? ⟨fb, 1, none⟩ = some (.int .i64 2) ∧ W.cell? ⟨fb, 2, none⟩ = some (.int .i64 3) ∧ W.cell? ⟨fb, 3, none⟩ = some (.slice none 0 0) ∧ W.cell? ⟨fb, 4, none⟩ = some (.slice (some ⟨bb, 0, none⟩) 1 1) :=
  ⟨Go.Joins.cell_of_block h.box 0, Go.Joins.cell_of_block h.box 1, Go.Joins.cell_of_block h.box 2, Go.Joins.cell_of_block h.box 3, Go.Joins.cell_of_block h.box 4⟩
theorem Sm.boxed (h : Sm W bb ob) : SmB (W.alloc (.cells #[.string ⟨#[102]⟩, .int .i64 2, .int .i64 3, .slice none 0 0, .slice (some ⟨bb, 0, none⟩) 1 1] 25)) W.heap.size bb ob := ⟨h.alloc _, heap_alloc_new W _⟩
theorem SmB.lts (h : SmB W fb bb ob) : fb < W.heap.size ∧ bb < W.heap.size ∧ ob < W.heap.size := ⟨h.fl, h.sm.bl, h.sm.ol⟩
end
theorem Name_f (w : World) : Calls Tryz.prog 68 #[.string ⟨#[102]⟩] w fun e w' => e = .returned (.bool true) ∧ Below w.heap.size w w' := by
  have h := Name_any ⟨#[102]⟩ w (by decide)
  have e : nameB (nums ⟨#[102]⟩) = true := by decide
  rw [e] at h
  exact h
set_option maxRecDepth 20000 in
set_option maxHeartbeats 8000000 in
theorem CheckFunc_42 (bb ob : Nat) (w : World) (h : Sm w bb ob) : Calls Tryz.prog 42 #[smV bb] w fun e w' => e = .returned (.int .i64 0) ∧ Below w.heap.size w w' := by
  have H0 := Lib.hid h.boxed
  have HB := Lib.hid ((Below.refl w.heap.size w).alloc (Nat.le_refl _) (.cells #[.string ⟨#[102]⟩, .int .i64 2, .int .i64 3, .slice none 0 0, .slice (some ⟨bb, 0, none⟩) 1 1] 25))
  clear h
  unfold smV
  go_enter Tryz.func42, Tryz.ntmps42
  go_wp2_with (go_at_call 68; refine (Name_f _).mono ?_; rintro e w1 ⟨rfl, hb1⟩; have h1 := H0.out.after hb1; obtain ⟨c0, c1, c2, c3, c4⟩ := h1.cells; obtain ⟨b0, b1, b2, b3, b4, b5⟩ := h1.sm.bcells; obtain ⟨l0, l1, l2⟩ := h1.lts; have H1 := Lib.hid h1; have HB1 := Lib.hid (HB.out.trans (hb1.mono HB.out.size)); clear h1 hb1)
  refine wp_loop_rounds 1 ?_
  rw [rounds_succ]
  go_wp2_with fail
  refine wp_loop_rounds 2 ?_
  rw [rounds_succ]
  have H2 := Lib.hid (H1.out.alloc (.cells #[.slice (some ⟨ob, 0, none⟩) 1 1, .int .i64 3, .int .i64 2, .int .i64 (-1), .int .i64 0, .int .i64 0] 52))
  have HX2 := Lib.hid (heap_alloc_new w1 (.cells #[.slice (some ⟨ob, 0, none⟩) 1 1, .int .i64 3, .int .i64 2, .int .i64 (-1), .int .i64 0, .int .i64 0] 52))
  have HB2 := Lib.hid (HB1.out.alloc HB1.out.size (.cells #[.slice (some ⟨ob, 0, none⟩) 1 1, .int .i64 3, .int .i64 2, .int .i64 (-1), .int .i64 0, .int .i64 0] 52))
  go_wp2_with (go_at_call 69; refine (exit_69 _).mono ?_; rintro e w3 ⟨rfl, hb3⟩; have h3 := H2.out.after hb3; have hx3 := (hb3.block w1.heap.size (by simp)).trans HX2.out; clear c0 c1 c2 c3 c4 b0 b1 b2 b3 b4 b5 l0 l1 l2; obtain ⟨c0, c1, c2, c3, c4⟩ := h3.cells; obtain ⟨o0, o1, o2, o3, o4, o5, o6⟩ := h3.sm.ocells; obtain ⟨l0, l1, l2⟩ := h3.lts; have x0 := Go.Joins.cell_of_block hx3 0; have l3 := (Array.getElem?_eq_some_iff.1 hx3).1; have H3 := Lib.hid h3; have HX3 := Lib.hid hx3; have HB3 := Lib.hid (HB2.out.trans (hb3.mono HB2.out.size)); clear h3 hb3 hx3)
  generalize w1.heap.size = xb at *
  refine wp_loop_rounds 2 ?_
  rw [rounds_succ]
  have H4 := Lib.hid (H3.out.alloc (.cells #[.int .i64 3, .int .i64 2, .int .i64 0, .int .i64 1, .int .i64 0, .string ⟨#[]⟩, .slice none 0 0] 72))
  have HX4 := Lib.hid ((heap_alloc_lt w3 (.cells #[.int .i64 3, .int .i64 2, .int .i64 0, .int .i64 1, .int .i64 0, .string ⟨#[]⟩, .slice none 0 0] 72) l3).trans HX3.out)
  have HO4 := Lib.hid (heap_alloc_new w3 (.cells #[.int .i64 3, .int .i64 2, .int .i64 0, .int .i64 1, .int .i64 0, .string ⟨#[]⟩, .slice none 0 0] 72))
  have HB4 := Lib.hid (HB3.out.alloc HB3.out.size (.cells #[.int .i64 3, .int .i64 2, .int .i64 0, .int .i64 1, .int .i64 0, .string ⟨#[]⟩, .slice none 0 0] 72))
  go_wp2_with (go_at_call 70; refine (Op_70 3 _ (by omega)).mono ?_; rintro e w5 ⟨rfl, hb5⟩; have h5 := H4.out.after hb5; have hx5 := (hb5.block xb (by rw [World.size_alloc]; omega)).trans HX4.out; have ho5 := (hb5.block w3.heap.size (by simp)).trans HO4.out; clear c0 c1 c2 c3 c4 o0 o1 o2 o3 o4 o5 o6 l0 l1 l2 l3 x0; obtain ⟨c0, c1, c2, c3, c4⟩ := h5.cells; obtain ⟨l0, l1, l2⟩ := h5.lts; have x0 := Go.Joins.cell_of_block hx5 0; have y0 := Go.Joins.cell_of_block ho5 0; have l3 := (Array.getElem?_eq_some_iff.1 hx5).1; have H5 := Lib.hid h5; have HB5 := Lib.hid (HB4.out.trans (hb5.mono HB4.out.size)); clear h5 hb5 hx5 ho5)
  rw [rounds_succ]
  go_wp2_with fail
  rw [rounds_succ]
  have HAL := Lib.hid (alone_71 bb ob w5 H5.out.sm)
  unfold smV at HAL
  go_wp2_with (go_at_call 71; refine HAL.out.mono ?_; rintro e w6 ⟨rfl, hb6⟩; have HB6 := Lib.hid (HB5.out.trans (hb6.mono HB5.out.size)); clear hb6)
  go_ret
  exact ⟨rfl, HB6.out⟩
end Go.Proofs.YthgbmhpfblgjcaaGreatDoor.fl
namespace Go.Proofs.YthgbmhpfblgjcaaGreatDoor.fl
open Go.RowKit Go.Shelf
open M T ty
set_option linter.unusedVariables false
theorem own_zero (W : World) (base : Nat) (hB : base ≤ W.heap.size) (E : TypeId) : (W.alloc (.cells #[] E)).ownsRow base E 1 (.slice (some ⟨W.heap.size, 0, none⟩) 0 0) 0 [] := ⟨rfl, .inr ⟨_, 0, #[], rfl, hB, heap_alloc_new W _, Nat.le_refl _, by simp [maxLen], rfl, rfl⟩⟩
theorem off_type {W : World} {base E E' size n g : Nat} {cs : Array Value} {v : Value} {xs : List Value} (hE : E ≠ E') (hg : W.heap[g]? = some (.cells cs E' (0, 0))) (h : W.ownsRow base E size v n xs) : v.ownBlock ≠ some g := by
  intro e
  rcases h.2 with ⟨rfl, -⟩ | ⟨b, cap, cur, rfl, -, hb, -⟩
  · simp [Value.ownBlock] at e
  · obtain rfl : b = g := by simpa [Value.ownBlock] using e
    have := hg.symm.trans hb
    simp at this
    exact hE this.2.symm
theorem in_keep (c : Int) (w : World) (hc : c = 97 ∨ c = 98 ∨ c = 100) : Calls Tryz.prog 114 #[.string ⟨#[100, 97, 98]⟩, .int .u8 c] w fun e w' => e = .returned (.bool true) ∧ w = w' := (in_any c w hc).mono fun e w' h => ⟨h.1, h.2.symm⟩
set_option maxRecDepth 20000 in
set_option maxHeartbeats 4000000 in
theorem Reads_74 (w : World) : Calls Tryz.prog 74 #[opV9] w fun e w' => ∃ v, e = .returned v ∧ IntsAt w' w.heap.size v [0, 1] ∧ Below w.heap.size w w' := by
  have hal := (Below.refl w.heap.size w).alloc (Nat.le_refl _) (.cells #[.int .i64 3, .int .i64 2, .int .i64 0, .int .i64 1, .int .i64 0, .string ⟨#[]⟩, .slice none 0 0] 72)
  have HX := Lib.hid (heap_alloc_new w (.cells #[.int .i64 3, .int .i64 2, .int .i64 0, .int .i64 1, .int .i64 0, .string ⟨#[]⟩, .slice none 0 0] 72))
  have HB := Lib.hid hal
  have HOP := Lib.hid (Op_70 4096 (w.alloc (.cells #[.int .i64 3, .int .i64 2, .int .i64 0, .int .i64 1, .int .i64 0, .string ⟨#[]⟩, .slice none 0 0] 72)) (by omega))
  clear hal
  unfold opV9 at HOP ⊢
  obtain ⟨i1, hj, hy0, hy1, hy2⟩ := info_parts info3q
  go_enter Tryz.func74, Tryz.ntmps74
  go_upto_region 5 with (first
    | (go_at_call 113; refine (uses_113 _).mono ?_; rintro e w1 ⟨rfl, rfl⟩)
    | (go_at_call 70; refine HOP.out.mono ?_; rintro e w1 ⟨rfl, hb1⟩; have hx1 := (hb1.block w.heap.size (by simp)).trans HX.out; have c0 := Go.Joins.cell_of_block hx1 0; have c2 := Go.Joins.cell_of_block hx1 2; have c3 := Go.Joins.cell_of_block hx1 3; have c6 := Go.Joins.cell_of_block hx1 6; have hxl := (Array.getElem?_eq_some_iff.1 hx1).1; have HX1 := Lib.hid hx1; have HB1 := Lib.hid (HB.out.trans (hb1.mono HB.out.size)); clear hb1 hx1))
  clear c0 c2 c3 c6
  have HO1 := Lib.hid (own_zero w1 w.heap.size HB1.out.size 3)
  have HX2 := Lib.hid ((heap_alloc_lt w1 (.cells #[] 3) hxl).trans HX1.out)
  have HB2 := Lib.hid (HB1.out.alloc HB1.out.size (.cells #[] 3))
  generalize w1.alloc (.cells #[] 3) = W2 at *
  generalize w1.heap.size = zb at *
  have c2 := Go.Joins.cell_of_block HX2.out 2
  have hxl2 := (Array.getElem?_eq_some_iff.1 HX2.out).1
  go_upto_region 7 with (first
    | (go_at_call 114; refine (in_keep _ _ (by decide)).mono ?_; rintro e w3 ⟨rfl, rfl⟩)
    | (at_builtin; go_loud ((refine wpList_app_one (w := W2.alloc (.cells #[.int .i64 0] 3)) rfl (.tmp 14) (.tmp 17) rfl (l := []) (r := (0 : Int)) rfl (HO1.out.alloc _) rfl (heap_alloc_new W2 _) (by simp) (by have := HB2.out.size; simp; omega) ?_; intro v4 w4 ho4 hg4; have hx4 := (hg4.block w.heap.size (by simp; omega) (fun e => off_type (by decide) HX2.out HO1.out e.symm)).trans ((heap_alloc_lt W2 _ hxl2).trans HX2.out); have HX4 := Lib.hid hx4; have HO4 := Lib.hid ho4; have HG4 := Lib.hid hg4; clear hx4 ho4 hg4))))
  clear c2
  have HB4 := Lib.hid ((HB2.out.alloc HB2.out.size (.cells #[.int .i64 0] 3)).grown HG4.out (by have := HB2.out.size; simp; omega) (fun g e => (HO1.out.lt g e).1))
  have hxl4 := (Array.getElem?_eq_some_iff.1 HX4.out).1
  have c3 := Go.Joins.cell_of_block HX4.out 3
  obtain ⟨A4, n4, rfl, -, -⟩ := own_form HO4.out
  go_upto_region 9 with (first
    | (go_at_call 114; refine (in_keep _ _ (by decide)).mono ?_; rintro e w3 ⟨rfl, rfl⟩)
    | (at_builtin; go_loud (refine wpList_app_one (w := w4.alloc (.cells #[.int .i64 1] 3)) rfl (.tmp 21) (.tmp 24) rfl (l := [0]) (r := (1 : Int)) rfl (HO4.out.alloc _) rfl (heap_alloc_new w4 _) (by simp) (by have := HB4.out.size; simp; omega) ?_); intro v5 w5 ho5 hg5; have hx5 := (hg5.block w.heap.size (by simp; omega) (fun e => off_type (by decide) HX4.out HO4.out e.symm)).trans ((heap_alloc_lt w4 _ hxl4).trans HX4.out); have HX5 := Lib.hid hx5; have HO5 := Lib.hid ho5; have HG5 := Lib.hid hg5; clear hx5 ho5 hg5))
  clear c3
  have HB5 := Lib.hid ((HB4.out.alloc HB4.out.size (.cells #[.int .i64 1] 3)).grown HG5.out (by have := HB4.out.size; simp; omega) (fun g e => (HO4.out.lt g e).1))
  have c6 := Go.Joins.cell_of_block HX5.out 6
  obtain ⟨A5, n5, rfl, -, -⟩ := own_form HO5.out
  go_wp2_with (at_builtin; go_loud ((refine wpList_append_rd (w := w5) rfl (.tmp 26) (.tmp 28) 27 rfl w.heap.size 3 i1 (.int .i64 0) 1 8 Tryz.underlying27 hj hy0 hy1 hy2 rfl (by omega) _ 2 (ints [0, 1]) rfl HO5.out 0 none 0 0 [] rfl rfl Rd.nil (by simp) (by simp [maxLen]) (by omega) HB5.out.size ?_; intro v6 w6 ho6 hg6 _; have HO6 := Lib.hid ho6; have HB6 := Lib.hid (HB5.out.grown hg6 HB5.out.size (fun g e => (HO5.out.lt g e).1)); clear ho6 hg6)))
  go_ret
  obtain ⟨A6, n6, rfl, -, -⟩ := own_form HO6.out
  exact ⟨_, rfl, ⟨A6, n6, rfl, HO6.out⟩, HB6.out⟩
theorem Rising_nil (w : World) : Calls Tryz.prog 83 #[.slice none 0 0] w fun e w' => ∃ R rc, e = .returned (.slice R 0 rc) ∧ Below w.heap.size w w' := by
  go_enter Tryz.func83, Tryz.ntmps83
  go_wp2_with fail
  refine wp_loop_rounds 1 ?_
  rw [rounds_succ]
  go_wp2_with fail
  go_ret
  exact ⟨_, _, rfl, (Below.refl _ _).alloc (Nat.le_refl _) _⟩
theorem Exits_any (w : World) : Calls Tryz.prog 73 #[exV9] w fun e w' => ∃ v, e = .returned (.tuple #[v, .slice none 0 0]) ∧ IntsAt w' w.heap.size v [2] ∧ Below w.heap.size w w' := (Exits_73 w).mono fun e w' ⟨A, h1, h2, h3⟩ => by
  subst h2
  subst h3
  have h := IntsAt.one (w.alloc (.cells #[.int .i64 3, .int .i64 2, .int .i64 (-1), .int .i64 0, .int .i64 0] 50)) w.heap.size (by simp) 2
  rw [World.size_alloc] at h
  exact ⟨_, h1, h, ((Below.refl _ _).alloc (Nat.le_refl _) _).alloc (by simp) _⟩
set_option maxRecDepth 20000 in
set_option maxHeartbeats 4000000 in
theorem edges_118 (bb ob : Nat) (w : World) (h : Sm w bb ob) : Calls Tryz.prog 118 #[smV bb] w fun e w' => ∃ eb c R rc, e = .returned (.slice (some ⟨eb, 0, none⟩) 1 c) ∧ w'.cell? ⟨eb, 0, none⟩ = some (.slice R 0 rc) ∧ eb < w'.heap.size ∧ Below w.heap.size w w' := by
  have H0 := Lib.hid (h.boxed.alloc (.cells #[] 27))
  have ho := own_zero (w.alloc (.cells #[.string ⟨#[102]⟩, .int .i64 2, .int .i64 3, .slice none 0 0, .slice (some ⟨bb, 0, none⟩) 1 1] 25)) w.heap.size (by simp) 27
  rw [World.size_alloc] at ho
  have HO := Lib.hid ho
  have HB := Lib.hid (((Below.refl w.heap.size w).alloc (Nat.le_refl _) (.cells #[.string ⟨#[102]⟩, .int .i64 2, .int .i64 3, .slice none 0 0, .slice (some ⟨bb, 0, none⟩) 1 1] 25)).alloc (by simp) (.cells #[] 27))
  clear h ho
  unfold smV
  go_enter Tryz.func118, Tryz.ntmps118
  go_wp2_with fail
  generalize (w.alloc (.cells #[.string ⟨#[102]⟩, .int .i64 2, .int .i64 3, .slice none 0 0, .slice (some ⟨bb, 0, none⟩) 1 1] 25)).alloc (.cells #[] 27) = W1 at *
  obtain ⟨c0, c1, c2, c3, c4⟩ := H0.out.cells
  obtain ⟨b0, b1, b2, b3, b4, b5⟩ := H0.out.sm.bcells
  obtain ⟨l0, l1, l2⟩ := H0.out.lts
  have HEX := Lib.hid (Exits_any W1)
  unfold exV9 at HEX
  refine wp_loop_rounds 2 ?_
  rw [rounds_succ]
  go_wp2_with (first
    | (at_builtin; (have hnow := HB3); go_loud ((refine wpList_app_gen (w := w3.alloc (.cells #[.slice R3 0 rc3] 27)) rfl (.tmp 25) (.tmp 28) 35 27 (.slice none 0 0) 24 Tryz.underlying35 info27 rfl rfl (l := []) rfl ((own_below_size HO.out HB3.out).alloc _) rfl (heap_alloc_new w3 _) rfl (by simp [maxLen]) (by simp) (by have := HB3.out.size; have := HB.out.size; simp; omega) ?_; intro v6 w6 ho6 hg6 hv6; have hb3 := HB.out.trans (HB3.out.mono HB.out.size); have hb6 : Below w.heap.size w w6 := (hb3.alloc hb3.size _).grown hg6 (by have := hb3.size; simp; omega) (fun g e => (HO.out.lt g e).1); have hx3 := (HB3.out.block w.heap.size l0).trans H0.out.box; have hx6 := (hg6.block w.heap.size (by have := HB3.out.size; simp; omega) (fun e => off_type (by decide) H0.out.box HO.out e.symm)).trans ((heap_alloc_lt w3 _ (by have := HB3.out.size; omega)).trans hx3); have x4 := Go.Joins.cell_of_block hx6 4; have HO6 := Lib.hid ho6; have HB6 := Lib.hid hb6; clear ho6 hg6 hv6 hb6 hb3 hx3 hx6)))
    | (go_at_call 83; go_loud ((refine (Rising_nil _).mono ?_; rintro e w3 ⟨R3, rc3, rfl, hb3⟩; have HB3 := Lib.hid (HB2.out.trans (hb3.mono HB2.out.size)); clear hb3)))
    | (go_at_call 73; go_loud ((refine HEX.out.mono ?_; rintro e w2 ⟨v2, rfl, -, hb2⟩; have HB2 := Lib.hid hb2; clear hb2))))
  obtain ⟨A6, c6, rfl, -, -⟩ := own_form HO6.out
  rw [rounds_succ]
  go_wp2_with fail
  go_ret
  have h9 := HO6.out
  obtain ⟨y, rfl, y1, y2, y3⟩ := own_at h9 (by simp)
  exact ⟨y, c6, R3, rc3, rfl, y3 0 _ rfl, y2, HB6.out⟩
end Go.Proofs.YthgbmhpfblgjcaaGreatDoor.fl
