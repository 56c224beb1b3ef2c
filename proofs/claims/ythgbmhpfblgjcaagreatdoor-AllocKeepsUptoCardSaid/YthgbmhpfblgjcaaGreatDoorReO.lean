/-
  Of the reference at the one sample: the clashes. Condition: the sample stands.
-/
import Derived.Test.YthgbmhpfblgjcaaGreatDoorReH
import Derived.Test.YthgbmhpfblgjcaaGreatDoorReJ
set_option linter.unusedVariables false
set_option linter.unusedSimpArgs false
namespace Go.Proofs.YthgbmhpfblgjcaaGreatDoor.fl
open Go.RowKit Go.Shelf
open M T ty
set_option linter.unusedVariables false
/-- what stands behind found -/
structure Lw (W : World) (fb bb ob lb eb ec ab ib ic tb : Nat) : Prop where
  s : SmB W fb bb ob
  l : Lv0 W bb ob eb
  v : W.heap[lb]? = some (lvObj bb eb ec (.slice (some ⟨ab, 0, none⟩) 1 1) (.slice (some ⟨ib, 0, none⟩) 1 ic))
  a : BoolsAt W ab [true]
  i : W.cell? ⟨ib, 0, none⟩ = some (.slice (some ⟨tb, 0, none⟩) 3 3)
  il : ib < W.heap.size
  t : BoolsAt W tb [true, true, false]
section
variable {W W' : World} {fb bb ob lb eb ec ab ib ic tb : Nat}
theorem Lw.after (h : Lw W fb bb ob lb eb ec ab ib ic tb) (hb : Below W.heap.size W W') : Lw W' fb bb ob lb eb ec ab ib ic tb :=
  ⟨h.s.after hb, h.l.after hb, (hb.block lb (Array.getElem?_eq_some_iff.1 h.v).1).trans h.v, h.a.below hb h.a.lt, (hb.cell (p := ⟨ib, 0, none⟩) h.il).trans h.i, Nat.lt_of_lt_of_le h.il hb.size, h.t.below hb h.t.lt⟩
theorem Lw.new (s : SmB W fb bb ob) (l : Lv0 W bb ob eb) (a : BoolsAt W ab [true]) (i : W.cell? ⟨ib, 0, none⟩ = some (.slice (some ⟨tb, 0, none⟩) 3 3)) (il : ib < W.heap.size) (t : BoolsAt W tb [true, true, false]) :
    Lw (W.alloc (lvObj bb eb ec (.slice (some ⟨ab, 0, none⟩) 1 1) (.slice (some ⟨ib, 0, none⟩) 1 ic))) fb bb ob W.heap.size eb ec ab ib ic tb := by
  have hb : Below W.heap.size W (W.alloc (lvObj bb eb ec (.slice (some ⟨ab, 0, none⟩) 1 1) (.slice (some ⟨ib, 0, none⟩) 1 ic))) := (Below.refl _ _).alloc (Nat.le_refl _) _
  exact ⟨s.after hb, l.after hb, heap_alloc_new W _, a.below hb a.lt, (hb.cell (p := ⟨ib, 0, none⟩) il).trans i, Nat.lt_of_lt_of_le il hb.size, t.below hb t.lt⟩
theorem Lw.lbl (h : Lw W fb bb ob lb eb ec ab ib ic tb) : lb < W.heap.size := (Array.getElem?_eq_some_iff.1 h.v).1
theorem Lw.cells (h : Lw W fb bb ob lb eb ec ab ib ic tb) : W.cell? ⟨lb, 0, none⟩ = some (.string ⟨#[102]⟩) ∧ W.cell? ⟨lb, 1, none⟩ = some (.int .i64 2) ∧ W.cell? ⟨lb, 2, none⟩ = some (.int .i64 3) ∧ W.cell? ⟨lb, 3, none⟩ = some (.slice none 0 0) ∧ W.cell? ⟨lb, 4, none⟩ = some (.slice (some ⟨bb, 0, none⟩) 1 1) ∧ W.cell? ⟨lb, 5, none⟩ = some (.slice (some ⟨eb, 0, none⟩) 1 ec) ∧ W.cell? ⟨lb, 6, none⟩ = some (.slice (some ⟨ab, 0, none⟩) 1 1) ∧ W.cell? ⟨lb, 7, none⟩ = some (.slice (some ⟨ib, 0, none⟩) 1 ic) :=
  ⟨Go.Joins.cell_of_block h.v 0, Go.Joins.cell_of_block h.v 1, Go.Joins.cell_of_block h.v 2, Go.Joins.cell_of_block h.v 3, Go.Joins.cell_of_block h.v 4, Go.Joins.cell_of_block h.v 5, Go.Joins.cell_of_block h.v 6, Go.Joins.cell_of_block h.v 7⟩
end
set_option maxRecDepth 20000 in
set_option maxHeartbeats 4000000 in
theorem Across_46 (bb ob : Nat) (w : World) (h : Sm w bb ob) : Calls Tryz.prog 46 #[smV bb] w fun e w' => ∃ v, e = .returned (.tuple #[v, .int .i64 0]) ∧ IntsAt w' w.heap.size v [] ∧ Below w.heap.size w w' := by
  have HB := Lib.hid ((Below.refl w.heap.size w).alloc (Nat.le_refl _) (.cells #[.string ⟨#[102]⟩, .int .i64 2, .int .i64 3, .slice none 0 0, .slice (some ⟨bb, 0, none⟩) 1 1] 25))
  have H0 := Lib.hid h.boxed
  have HCF := Lib.hid (fun W (hW : Sm W bb ob) => CheckFunc_42 bb ob W hW)
  have HFO := Lib.hid (fun W (hW : Sm W bb ob) => found_75 bb ob W hW)
  clear h
  unfold smV at HCF HFO ⊢
  unfold lvV at HFO
  go_enter Tryz.func46, Tryz.ntmps46
  have hmk := mk138_3
  go_wp2_with (first
    | (go_at_call 75; go_loud ((refine (HFO.out _ H1.out.sm).mono ?_; rintro e w2 ⟨eb, ec, ab, ib, ic, tb, rfl, hl, ha, hi, hil, ht, hb2⟩; have h2 := H1.out.after hb2; obtain ⟨d0, d1, d2, d3, d4⟩ := h2.cells; have dl := h2.fl; have HL := Lib.hid (Lw.new (ec := ec) (ic := ic) h2 hl ha hi hil ht); have HB2 := Lib.hid (HB1.out.trans (hb2.mono HB1.out.size)); clear hl ha hi hil ht hb2 h2 c0 c1 c2 c3 c4)))
    | (go_at_call 42; go_loud ((refine (HCF.out _ H0.out.sm).mono ?_; rintro e w1 ⟨rfl, hb1⟩; have h1 := H0.out.after hb1; obtain ⟨c0, c1, c2, c3, c4⟩ := h1.cells; have H1 := Lib.hid h1; have HB1 := Lib.hid (HB.out.trans (hb1.mono HB.out.size)); clear h1 hb1))))
  have hal := (Below.refl (w2.alloc (lvObj bb eb ec (.slice (some ⟨ab, 0, none⟩) 1 1) (.slice (some ⟨ib, 0, none⟩) 1 ic))).heap.size (w2.alloc (lvObj bb eb ec (.slice (some ⟨ab, 0, none⟩) 1 1) (.slice (some ⟨ib, 0, none⟩) 1 ic)))).alloc (Nat.le_refl _) (.cells #[.bool false, .bool false, .bool false] 4)
  have HL4 := Lib.hid (HL.out.after hal)
  have HZ : Hid (BoolsAt ((w2.alloc (lvObj bb eb ec (.slice (some ⟨ab, 0, none⟩) 1 1) (.slice (some ⟨ib, 0, none⟩) 1 ic))).alloc (.cells #[.bool false, .bool false, .bool false] 4)) (w2.heap.size + 1) [false, false, false]) := Lib.hid (by
    have h9 := heap_alloc_new (w2.alloc (lvObj bb eb ec (.slice (some ⟨ab, 0, none⟩) 1 1) (.slice (some ⟨ib, 0, none⟩) 1 ic))) (.cells #[.bool false, .bool false, .bool false] 4)
    rw [World.size_alloc] at h9
    exact h9)
  have HB4 := Lib.hid ((HB2.out.alloc HB2.out.size (lvObj bb eb ec (.slice (some ⟨ab, 0, none⟩) 1 1) (.slice (some ⟨ib, 0, none⟩) 1 ic))).trans (hal.mono (by have := HB2.out.size; simp; omega)))
  clear hal HL H0 H1 HCF HFO HB HB1 HB2 d0 d1 d2 d3 d4 dl
  unfold lvObj at HL4 HZ HB4
  generalize (w2.alloc (.cells #[.string ⟨#[102]⟩, .int .i64 2, .int .i64 3, .slice none 0 0, .slice (some ⟨bb, 0, none⟩) 1 1, .slice (some ⟨eb, 0, none⟩) 1 ec, .slice (some ⟨ab, 0, none⟩) 1 1, .slice (some ⟨ib, 0, none⟩) 1 ic] 135)).alloc (.cells #[.bool false, .bool false, .bool false] 4) = W4 at *
  generalize w2.heap.size + 1 = zb at *
  generalize w2.heap.size = lb at *
  obtain ⟨c0, c1, c2, c3, c4⟩ := HL4.out.s.cells
  obtain ⟨x0, x1, x2, x3, x4, x5, x6, x7⟩ := HL4.out.cells
  obtain ⟨b0, b1, b2, b3, b4, b5⟩ := HL4.out.s.sm.bcells
  obtain ⟨o0, o1, o2, o3, o4, o5, o6⟩ := HL4.out.s.sm.ocells
  obtain ⟨l0, l1, l2⟩ := HL4.out.s.lts
  have l3 := HL4.out.lbl
  have l4 := HL4.out.a.lt
  have a0 := HL4.out.a.cell (j := 0) rfl
  have hop := (Below.refl W4.heap.size W4).alloc (Nat.le_refl _) (.cells #[.int .i64 3, .int .i64 2, .int .i64 0, .int .i64 1, .int .i64 0, .string ⟨#[]⟩, .slice none 0 0] 72)
  have HLS := Lib.hid (list_81 zb [false, false, false] _ (HZ.out.below hop HZ.out.lt) (by decide))
  have HB5 := Lib.hid (HB4.out.trans (hop.mono HB4.out.size))
  clear hop
  refine wp_loop_rounds 2 ?_
  rw [rounds_succ]
  go_wp2_with fail
  refine wp_loop_rounds 2 ?_
  rw [rounds_succ]
  go_wp2_with fail
  rw [rounds_succ]
  go_wp2_with fail
  rw [rounds_succ]
  go_wp2_with (go_at_call 81; go_loud ((refine HLS.out.mono ?_; rintro e w6 ⟨v, rfl, hv, hb6⟩; have HV := Lib.hid hv; have HB6 := Lib.hid hb6; clear hv hb6)))
  go_ret2
  refine ⟨v, rfl, ?_, HB5.out.trans (HB6.out.mono HB5.out.size)⟩
  obtain ⟨A, c, e, ho⟩ := HV.out
  exact ⟨A, c, e, own_base ho HB5.out.size⟩
end Go.Proofs.YthgbmhpfblgjcaaGreatDoor.fl
namespace Go.Proofs.YthgbmhpfblgjcaaGreatDoor.fl
open Go.RowKit Go.Shelf
open M T ty
set_option linter.unusedVariables false
/-- Live under way: its result is made at xb -/
structure Lx (w W : World) (fb bb ob lb eb ec ab ib ic tb xb : Nat) (va vb : Value) : Prop where
  l : Lw W fb bb ob lb eb ec ab ib ic tb
  x : W.heap[xb]? = some (.cells #[va, vb] 42 (0, 0))
  r : W.heap[w.heap.size + 1]? = some (.cells #[.slice none 0 0, .slice none 0 0] 42 (0, 0))
  b : Below w.heap.size w W
  lo : w.heap.size + 2 ≤ xb
  hi : fb < xb ∧ bb < xb ∧ ob < xb ∧ lb < xb ∧ eb < xb ∧ ab < xb ∧ ib < xb ∧ tb < xb
section
variable {w W W' : World} {fb bb ob lb eb ec ab ib ic tb xb : Nat} {va vb : Value}
theorem Lx.xl (h : Lx w W fb bb ob lb eb ec ab ib ic tb xb va vb) : xb < W.heap.size := (Array.getElem?_eq_some_iff.1 h.x).1
theorem Lx.after (h : Lx w W fb bb ob lb eb ec ab ib ic tb xb va vb) (hb : Below W.heap.size W W') : Lx w W' fb bb ob lb eb ec ab ib ic tb xb va vb :=
  ⟨h.l.after hb, (hb.block xb h.xl).trans h.x, (hb.block _ (by have := h.xl; have := h.lo; omega)).trans h.r, h.b.trans (hb.mono h.b.size), h.lo, h.hi⟩
theorem Lx.setx (h : Lx w W fb bb ob lb eb ec ab ib ic tb xb va vb) {o : Nat} (v va' vb' : Value) (he : #[va, vb].setIfInBounds o v = #[va', vb']) : Lx w (W.setCell ⟨xb, o, none⟩ v) fb bb ob lb eb ec ab ib ic tb xb va' vb' := by
  obtain ⟨h1, h2, h3, h4, h5, h6, h7, h8⟩ := h.hi
  have hl := h.lo
  have hk : ∀ k, k < xb → (W.setCell ⟨xb, o, none⟩ v).heap[k]? = W.heap[k]? := fun k hk => heap_other _ (by omega)
  refine ⟨⟨h.l.s.keep (hk _ h1) (hk _ h2) (hk _ h3), ⟨⟨(hk _ h2).trans h.l.l.sm.b, (hk _ h3).trans h.l.l.sm.o⟩, ?_, by rw [World.size_setCell]; exact h.l.l.el⟩, (hk _ h4).trans h.l.v, (hk _ h6).trans h.l.a, (cell_of_heap (p := ⟨ib, 0, none⟩) (hk _ h7)).trans h.l.i, by rw [World.size_setCell]; exact h.l.il, (hk _ h8).trans h.l.t⟩, by rw [heap_set h.x, he], (hk _ (by omega)).trans h.r, h.b.setCell (p := ⟨xb, o, none⟩) (by show w.heap.size ≤ xb; omega) _, h.lo, h.hi⟩
  obtain ⟨R, rc, e⟩ := h.l.l.ed
  exact ⟨R, rc, (cell_of_heap (p := ⟨eb, 0, none⟩) (hk _ h5)).trans e⟩
/-- a list more -/
theorem Lx.app (h : Lx w W fb bb ob lb eb ec ab ib ic tb xb va vb) {u : Value} {w6 : World} (hg : (W.alloc (.cells #[u] 27)).grownBy w6 none) : Lx w w6 fb bb ob lb eb ec ab ib ic tb xb va vb :=
  h.after ((((Below.refl _ _).alloc (Nat.le_refl _) _)).grown hg (by simp) (fun g e => by cases e))
end
theorem rd_new27 (W : World) (v : Value) : Rd (W.alloc (.cells #[v] 27)) (W.heap.size + 1) (some ⟨W.heap.size, 0, none⟩) [v] := fun _ => ⟨_, rfl, Nat.lt_succ_self _, fun j u hu => by
  rcases j with _ | j
  · have : u = v := by simpa using hu.symm
    rw [this]
    exact Go.Joins.cell_of_block (heap_alloc_new W (.cells #[v] 27)) 0
  · simp at hu⟩
set_option maxRecDepth 20000 in
set_option maxHeartbeats 8000000 in
theorem Live_48 (bb ob : Nat) (w : World) (h : Sm w bb ob) : Calls Tryz.prog 48 #[smV bb] w fun e w' => ∃ A n c A' n' c', e = .returned (.tuple #[.agg #[.slice A n c, .slice A' n' c'], .int .i64 0]) ∧ Below w.heap.size w w' := by
  have HB := Lib.hid (((Below.refl w.heap.size w).alloc (Nat.le_refl _) (.cells #[.string ⟨#[102]⟩, .int .i64 2, .int .i64 3, .slice none 0 0, .slice (some ⟨bb, 0, none⟩) 1 1] 25)).alloc (by simp) (.cells #[.slice none 0 0, .slice none 0 0] 42))
  have H0 := Lib.hid (h.boxed.alloc (.cells #[.slice none 0 0, .slice none 0 0] 42))
  have HR : Hid (((w.alloc (.cells #[.string ⟨#[102]⟩, .int .i64 2, .int .i64 3, .slice none 0 0, .slice (some ⟨bb, 0, none⟩) 1 1] 25)).alloc (.cells #[.slice none 0 0, .slice none 0 0] 42)).heap[w.heap.size + 1]? = some (.cells #[.slice none 0 0, .slice none 0 0] 42 (0, 0))) := Lib.hid (by
    have h9 := heap_alloc_new (w.alloc (.cells #[.string ⟨#[102]⟩, .int .i64 2, .int .i64 3, .slice none 0 0, .slice (some ⟨bb, 0, none⟩) 1 1] 25)) (.cells #[.slice none 0 0, .slice none 0 0] 42)
    rw [World.size_alloc] at h9
    exact h9)
  have HCF := Lib.hid (fun W (hW : Sm W bb ob) => CheckFunc_42 bb ob W hW)
  have HFO := Lib.hid (fun W (hW : Sm W bb ob) => found_75 bb ob W hW)
  clear h
  unfold smV at HCF HFO ⊢
  unfold lvV at HFO
  go_enter Tryz.func48, Tryz.ntmps48
  go_wp2_with (first
    | (go_at_call 75; go_loud ((refine (HFO.out _ H1.out.sm).mono ?_; rintro e w2 ⟨eb, ec, ab, ib, ic, tb, rfl, hl, ha, hi, hil, ht, hb2⟩; have h2 := H1.out.after hb2; obtain ⟨d0, d1, d2, d3, d4⟩ := h2.cells; have dl := h2.fl; have HS2 := Lib.hid h2; have HEL := Lib.hid (And.intro hl.el (And.intro ha.lt (And.intro hil ht.lt))); have HL := Lib.hid (Lw.new (ec := ec) (ic := ic) h2 hl ha hi hil ht); have HR2 := Lib.hid ((hb2.block _ (Array.getElem?_eq_some_iff.1 HR1.out).1).trans HR1.out); have HB2 := Lib.hid (HB1.out.trans (hb2.mono HB1.out.size)); clear hl ha hi hil ht hb2 h2 c0 c1 c2 c3 c4)))
    | (go_at_call 42; go_loud ((refine (HCF.out _ H0.out.sm).mono ?_; rintro e w1 ⟨rfl, hb1⟩; have h1 := H0.out.after hb1; obtain ⟨c0, c1, c2, c3, c4⟩ := h1.cells; have H1 := Lib.hid h1; have HR1 := Lib.hid ((hb1.block _ (Array.getElem?_eq_some_iff.1 HR.out).1).trans HR.out); have HB1 := Lib.hid (HB.out.trans (hb1.mono HB.out.size)); clear h1 hb1))))
  have hz := HB2.out.size
  have hal0 := (Below.refl w2.heap.size w2).alloc (Nat.le_refl _) (lvObj bb eb ec (.slice (some ⟨ab, 0, none⟩) 1 1) (.slice (some ⟨ib, 0, none⟩) 1 ic))
  have hal := (Below.refl (w2.alloc (lvObj bb eb ec (.slice (some ⟨ab, 0, none⟩) 1 1) (.slice (some ⟨ib, 0, none⟩) 1 ic))).heap.size (w2.alloc (lvObj bb eb ec (.slice (some ⟨ab, 0, none⟩) 1 1) (.slice (some ⟨ib, 0, none⟩) 1 ic)))).alloc (Nat.le_refl _) (.cells #[.slice none 0 0, .slice none 0 0] 42)
  have hrl := (Array.getElem?_eq_some_iff.1 HR2.out).1
  have HX : Hid (Lx w ((w2.alloc (lvObj bb eb ec (.slice (some ⟨ab, 0, none⟩) 1 1) (.slice (some ⟨ib, 0, none⟩) 1 ic))).alloc (.cells #[.slice none 0 0, .slice none 0 0] 42)) w.heap.size bb ob w2.heap.size eb ec ab ib ic tb (w2.heap.size + 1) (.slice none 0 0) (.slice none 0 0)) := Lib.hid (by
    obtain ⟨e1, e2, e3, e4⟩ := HEL.out
    obtain ⟨f1, f2, f3⟩ := HS2.out.lts
    refine ⟨HL.out.after hal, ?_, (hal.block _ (by simp; omega)).trans ((hal0.block _ hrl).trans HR2.out), (HB2.out.trans (hal0.mono hz)).trans (hal.mono (by simp; omega)), by omega, by omega, by omega, by omega, by omega, by omega, by omega, by omega, by omega⟩
    have h9 := heap_alloc_new (w2.alloc (lvObj bb eb ec (.slice (some ⟨ab, 0, none⟩) 1 1) (.slice (some ⟨ib, 0, none⟩) 1 ic))) (.cells #[.slice none 0 0, .slice none 0 0] 42)
    rw [World.size_alloc] at h9
    exact h9)
  clear hal hal0 HL HS2 HEL HR2 H0 H1 HCF HFO HB HB1 HB2 HR HR1 d0 d1 d2 d3 d4 dl hrl
  unfold lvObj at HX
  generalize (w2.alloc (.cells #[.string ⟨#[102]⟩, .int .i64 2, .int .i64 3, .slice none 0 0, .slice (some ⟨bb, 0, none⟩) 1 1, .slice (some ⟨eb, 0, none⟩) 1 ec, .slice (some ⟨ab, 0, none⟩) 1 1, .slice (some ⟨ib, 0, none⟩) 1 ic] 135)).alloc (.cells #[.slice none 0 0, .slice none 0 0] 42) = W4 at *
  generalize w2.heap.size + 1 = xb at *
  generalize w2.heap.size = lb at *
  obtain ⟨i1, hj, hy0, hy1, hy2⟩ := info_parts info27
  have hx3 : 0 + 1 ≤ maxLen := by simp [maxLen]
  have hx4 : (0 + 1) * 24 ≤ 140737488355328 := by omega
  obtain ⟨c0, c1, c2, c3, c4⟩ := HX.out.l.s.cells
  obtain ⟨x0, x1, x2, x3, x4, x5, x6, x7⟩ := HX.out.l.cells
  have a0 := HX.out.l.a.cell (j := 0) rfl
  refine wp_loop_rounds 2 ?_
  rw [rounds_succ]
  go_upto_region 12 with fail
  have i0 := HX.out.l.i
  have y0 := Go.Joins.cell_of_block HX.out.x 0
  have HLS := Lib.hid (fun W (hW : BoolsAt W tb [true, true, false]) => list_81 tb [true, true, false] W hW (by decide))
  go_cut [6] (fun s6 wc => s6 = .pointer (some ⟨xb, 0, none⟩) ∧ ∃ A n c, Lx w wc w.heap.size bb ob lb eb ec ab ib ic tb xb (.slice A n c) (.slice none 0 0))
  case first =>
    go_region_law (first
      | (refine step_append_rd _ rfl (.tmp 41) (.tmp 48) 35 rfl w9.heap.size 27 i1 _ 1 24 Tryz.underlying35 hj hy0 hy1 hy2 rfl (by omega) (.slice none 0 0) 0 [] (by simp [Act.eval, Act.put]) (by exact World.ownsRow_nil _ _ _ _) _ (some ⟨w9.heap.size, 0, none⟩) 1 1 [.slice A9 n9 c9] (by simp [Act.eval, Act.put]) rfl (by exact HRD.out) (by exact HONE.out) hx3 hx4 (by simp) ?_; intro v6 w6 ho6 hg6 hv6; obtain ⟨A6, c6, rfl, -, -⟩ := own_form ho6; have hx6 := HX9.out.app hg6; have z0 := Go.Joins.cell_of_block hx6.x 0; have zf := Go.Joins.unfrozen_of_block hx6.x 0; have HX6 := Lib.hid hx6; clear ho6 hg6 hv6 hx6)
      | (go_simp; go_at_call 81; go_loud (refine (HLS.out W4.drew HX.out.l.t).mono ?_; rintro e w9 ⟨v9, rfl, ⟨A9, c9, e9, -⟩, hb9⟩; generalize (trues _ _).length = n9 at e9; subst e9; have hx9 := HX.out.after (((Below.refl W4.heap.size W4).drew).trans hb9); have y9 := Go.Joins.cell_of_block hx9.x 0; have hxl9 := hx9.xl; have HX9 := Lib.hid hx9; have HRD : Hid (Rd (w9.alloc (.cells #[.slice A9 n9 c9] 27)) (w9.heap.size + 1) (some ⟨w9.heap.size, 0, none⟩) [.slice A9 n9 c9]) := Lib.hid (rd_new27 w9 (.slice A9 n9 c9)); have HONE : Hid (∀ u ∈ [Value.slice A9 n9 c9], u.oneCell' = true) := Lib.hid (by intro u hu; have : u = .slice A9 n9 c9 := (by simpa using hu); rw [this]; rfl); clear hb9 hx9)))
    all_goals
      go_wp2_with fail
      go_meet
      case rel => exact ⟨rfl, _, _, _, HX6.out.setx (o := 0) _ _ _ rfl⟩
  case rest =>
    obtain ⟨rfl, Av, nv, cv, hx⟩ := hcut
    clear HX c0 c1 c2 c3 c4 x0 x1 x2 x3 x4 x5 x6 x7 a0 i0 y0 HLS
    obtain ⟨x0, x1, x2, x3, x4, x5, x6, x7⟩ := hx.l.cells
    have y1 := Go.Joins.cell_of_block hx.x 1
    have HX := Lib.hid hx
    have HEN := Lib.hid (fun W (hW : Lv0 W bb ob eb) => end_87 bb ob eb ec ab ib ic W hW)
    have HLS := Lib.hid (fun W tb' (hW : BoolsAt W tb' [false, false, false]) => list_81 tb' [false, false, false] W hW (by decide))
    unfold lvV at HEN
    clear hx
    go_upto_region 13 with fail
    go_region_law (first
      | (refine step_append_rd _ rfl (.tmp 52) (.tmp 57) 35 rfl w9.heap.size 27 i1 _ 1 24 Tryz.underlying35 hj hy0 hy1 hy2 rfl (by omega) (.slice none 0 0) 0 [] (by simp [Act.eval, Act.put]) (by exact World.ownsRow_nil _ _ _ _) _ (some ⟨w9.heap.size, 0, none⟩) 1 1 [.slice A9 n9 c9] (by simp [Act.eval, Act.put]) rfl (by exact HRD.out) (by exact HONE.out) hx3 hx4 (by simp) ?_; intro v6 w6 ho6 hg6 hv6; obtain ⟨A6, c6, rfl, -, -⟩ := own_form ho6; have hx6 := HX9.out.app hg6; have z0 := Go.Joins.cell_of_block hx6.x 1; have zf := Go.Joins.unfrozen_of_block hx6.x 1; have HX6 := Lib.hid hx6; clear ho6 hg6 hv6 hx6)
      | (go_simp; go_at_call 81; go_loud (refine (HLS.out _ _ HT8.out).mono ?_; rintro e w9 ⟨v9, rfl, ⟨A9, c9, e9, -⟩, hb9⟩; generalize (trues _ _).length = n9 at e9; subst e9; have hx9 := HX8.out.after hb9; have y9 := Go.Joins.cell_of_block hx9.x 1; have hxl9 := hx9.xl; have HX9 := Lib.hid hx9; have HRD : Hid (Rd (w9.alloc (.cells #[.slice A9 n9 c9] 27)) (w9.heap.size + 1) (some ⟨w9.heap.size, 0, none⟩) [.slice A9 n9 c9]) := Lib.hid (rd_new27 w9 (.slice A9 n9 c9)); have HONE : Hid (∀ u ∈ [Value.slice A9 n9 c9], u.oneCell' = true) := Lib.hid (by intro u hu; have : u = .slice A9 n9 c9 := (by simpa using hu); rw [this]; rfl); clear hb9 hx9))
      | (go_simp; go_at_call 87; go_loud (refine (HEN.out wc.drew (HX.out.l.l.after ((Below.refl _ _).drew))).mono ?_; rintro e w8 ⟨tb8, rfl, ht8, -, hb8⟩; have hx8 := HX.out.after (((Below.refl wc.heap.size wc).drew).trans hb8); have y8 := Go.Joins.cell_of_block hx8.x 1; have HX8 := Lib.hid hx8; have HT8 := Lib.hid ht8; clear ht8 hb8 hx8)))
    all_goals
      have hx := HX6.out.setx (o := 1) (.slice A6 1 c6) (.slice Av nv cv) (.slice A6 1 c6) rfl
      clear HX6
      generalize w6.setCell ⟨xb, 1, none⟩ (.slice A6 1 c6) = W7 at *
      clear HX x0 x1 x2 x3 x4 x5 x6 x7 y1 HEN HLS
      obtain ⟨c0, c1, c2, c3, c4⟩ := hx.l.s.cells
      have y0 := Go.Joins.cell_of_block hx.x 0
      have y1 := Go.Joins.cell_of_block hx.x 1
      have r0 := Go.Joins.cell_of_block hx.r 0
      have r1 := Go.Joins.cell_of_block hx.r 1
      have f0 := Go.Joins.unfrozen_of_block hx.r 0
      have f1 := Go.Joins.unfrozen_of_block hx.r 1
      have HBE := Lib.hid hx.b
      clear hx
      go_wp2_with fail
      rw [rounds_succ]
      go_wp2_with fail
      try simp only [Exit.inBlock, Exit.then]
      refine bodyPost_ret (v := .tuple #[.agg #[.slice Av nv cv, .slice A6 1 c6], .int .i64 0]) (by rw [results_cell_tmp rfl]; go_simp) rfl ?_
      exact ⟨_, _, _, _, _, _, rfl, (HBE.out.setCell (p := ⟨w.heap.size + 1, 0, none⟩) (Nat.le_succ _) (.slice Av nv cv)).setCell (p := ⟨w.heap.size + 1, 1, none⟩) (Nat.le_succ _) (.slice A6 1 c6)⟩
end Go.Proofs.YthgbmhpfblgjcaaGreatDoor.fl
namespace Go.Proofs.YthgbmhpfblgjcaaGreatDoor.fl
open Go.RowKit Go.Shelf
open M T ty
set_option linter.unusedVariables false
set_option maxRecDepth 20000 in
set_option maxHeartbeats 4000000 in
theorem Analyze_47 (bb ob : Nat) (w : World) (h : Sm w bb ob) : Calls Tryz.prog 47 #[smV bb] w fun e w' => ∃ A, e = .returned (.tuple #[.slice A 0 0, .int .i64 0]) ∧ Below w.heap.size w w' := by
  have HB := Lib.hid ((Below.refl w.heap.size w).alloc (Nat.le_refl _) (.cells #[.string ⟨#[102]⟩, .int .i64 2, .int .i64 3, .slice none 0 0, .slice (some ⟨bb, 0, none⟩) 1 1] 25))
  have H0 := Lib.hid h.boxed
  have HLV := Lib.hid (fun W (hW : Sm W bb ob) => Live_48 bb ob W hW)
  have HRE := Lib.hid (fun W (hW : Sm W bb ob) => Reached_72 bb ob W hW)
  have HIS := Lib.hid (fun W ab (hW : Sm W bb ob) (ha : BoolsAt W ab [true]) => isSet_84 bb ob ab W hW ha)
  clear h
  unfold smV at HLV HRE HIS ⊢
  go_enter Tryz.func47, Tryz.ntmps47
  go_wp2_with (first
    | (go_at_call 72; go_loud ((refine (HRE.out _ H2.out.sm).mono ?_; rintro e w3 ⟨ab, rfl, hab, -, hb3⟩; have h3 := H2.out.after hb3; obtain ⟨d0, d1, d2, d3, d4⟩ := h3.cells; have H3 := Lib.hid h3; have HAB := Lib.hid hab; have HB3 := Lib.hid (HB2.out.trans (hb3.mono HB2.out.size)); clear hab hb3 h3 c0 c1 c2 c3 c4)))
    | (go_at_call 48; go_loud ((refine (HLV.out _ H0.out.sm).mono ?_; rintro e w1 ⟨A1, n1, m1, A2, n2, m2, rfl, hb1⟩; have h1 := H0.out.after hb1; have h2 := h1.alloc (.cells #[.slice A1 n1 m1, .slice A2 n2 m2] 42); obtain ⟨c0, c1, c2, c3, c4⟩ := h1.cells; have cl := h1.fl; have hb2 := HB.out.trans (hb1.mono HB.out.size); have H2 := Lib.hid h2; have HB2 := Lib.hid (hb2.alloc hb2.size (.cells #[.slice A1 n1 m1, .slice A2 n2 m2] 42)); clear h1 h2 hb1 hb2))))
  have h4 := H3.out.alloc (.cells #[] 46)
  have hal := (Below.refl w3.heap.size w3).alloc (Nat.le_refl _) (.cells #[] 46)
  have HAB4 := Lib.hid (HAB.out.below hal HAB.out.lt)
  have HB4 := Lib.hid (HB3.out.trans (hal.mono HB3.out.size))
  have H4 := Lib.hid h4
  clear h4 hal HLV HRE H3 HAB HB3 H2 HB2 d0 d1 d2 d3 d4
  generalize w3.alloc (.cells #[] 46) = W4 at *
  obtain ⟨c0, c1, c2, c3, c4⟩ := H4.out.cells
  refine wp_loop_rounds 2 ?_
  rw [rounds_succ]
  go_wp2_with (go_at_call 84; go_loud ((refine (HIS.out _ ab H4.out.sm HAB4.out).mono ?_; rintro e w5 ⟨rfl, hb5⟩; have h5 := H4.out.after hb5; obtain ⟨e0, e1, e2, e3, e4⟩ := h5.cells; have HB5 := Lib.hid (HB4.out.trans (hb5.mono HB4.out.size)); clear hb5 h5)))
  rw [rounds_succ]
  go_wp2_with fail
  go_ret2
  exact ⟨_, rfl, HB5.out⟩
end Go.Proofs.YthgbmhpfblgjcaaGreatDoor.fl
namespace Go.Proofs.YthgbmhpfblgjcaaGreatDoor.fl
open Go.RowKit Go.Shelf
open M T ty
set_option linter.unusedVariables false
set_option maxRecDepth 20000 in
set_option maxHeartbeats 4000000 in
theorem written_1 {cb s0 s1 s2 c tb : Nat} {l0 l1 l2 : List Bool} (w : World) (h : Cm w cb s0 s1 s2 l0 l1 l2) (h0 : l0.length = 3) (h1 : l1.length = 3) (ht : BoolsAt w tb [true, true, false]) (hn : tb ≠ s0 ∧ tb ≠ s1) :
    Calls Tryz.prog 76 #[.slice (some ⟨cb, 0, none⟩) 3 c, .int .i64 1, .slice (some ⟨tb, 0, none⟩) 3 3, .int .i64 (-1)] w fun e w' => e = .returned (.tuple #[]) ∧ Cm w' cb s0 s1 s2 (l0.set 1 true) (l1.set 0 true) l2 ∧ Wrt w w' s0 s1 := by
  obtain ⟨c0, c1, c2, cl⟩ := h.cells
  obtain ⟨n0, n1, n2⟩ := h.nc
  obtain ⟨m0, m1, m2⟩ := h.ne
  have t0 := ht.cell (j := 0) rfl
  have t1 := ht.cell (j := 1) rfl
  have t2 := ht.cell (j := 2) rfl
  have z0 := h.b0.cell (j := 1) (List.getElem?_eq_getElem (by omega))
  have zf := h.b0.unfrozen 1
  have z1 := h.b1.cell (j := 0) (List.getElem?_eq_getElem (by omega))
  have zg := h.b1.unfrozen 0
  have H2 := Lib.hid ((h.set1 0 true).set0 1 true)
  have hn0 := hn.1
  have hn1 := hn.2
  have HW : Hid (Wrt w ((w.setCell ⟨s1, 0, none⟩ (.bool true)).setCell ⟨s0, 1, none⟩ (.bool true)) s0 s1) := Lib.hid ⟨fun k a b => (heap_other _ a).trans (heap_other _ b), by simp only [World.size_setCell], fun B a hb x y => (hb.setCell (p := ⟨s1, 0, none⟩) y _).setCell (p := ⟨s0, 1, none⟩) x _⟩
  clear h ht hn
  go_enter Tryz.func76, Tryz.ntmps76
  go_wp2_with fail
  refine wp_loop_rounds 4 ?_
  rw [rounds_succ]
  go_wp2_with fail
  rw [rounds_succ]
  go_wp2_with fail
  rw [rounds_succ]
  go_wp2_with fail
  rw [rounds_succ]
  go_wp2_with fail
  go_end0
  exact ⟨rfl, H2.out, HW.out⟩
set_option maxRecDepth 20000 in
set_option maxHeartbeats 4000000 in
theorem written_2 {cb c tb : Nat} (w : World) (ht : BoolsAt w tb [false, false, true]) :
    Calls Tryz.prog 76 #[.slice (some ⟨cb, 0, none⟩) 3 c, .int .i64 2, .slice (some ⟨tb, 0, none⟩) 3 3, .int .i64 (-1)] w fun e w' => e = .returned (.tuple #[]) ∧ w = w' := by
  have t0 := ht.cell (j := 0) rfl
  have t1 := ht.cell (j := 1) rfl
  have t2 := ht.cell (j := 2) rfl
  clear ht
  go_enter Tryz.func76, Tryz.ntmps76
  go_wp2_with fail
  refine wp_loop_rounds 4 ?_
  rw [rounds_succ]
  go_wp2_with fail
  rw [rounds_succ]
  go_wp2_with fail
  rw [rounds_succ]
  go_wp2_with fail
  rw [rounds_succ]
  go_wp2_with fail
  go_end0
  exact ⟨rfl, rfl⟩
def rowS (s : Nat) : Value := .slice (some ⟨s, 0, none⟩) 3 3
/-- sets under way -/
structure EnvRc (w3 W : World) (v : Value) (ss : List Nat) : Prop where
  own : W.ownsRow w3.heap.size 138 1 v (ss.map rowS).length (ss.map rowS)
  z : ∀ s ∈ ss, BoolsAt W s [false, false, false] ∧ w3.heap.size ≤ s
  nd : ss.Nodup
  b : Below w3.heap.size w3 W
theorem EnvRc.app {w3 W w6 : World} {v v' : Value} {ss : List Nat} (h : EnvRc w3 W v ss) (ho : w6.ownsRow w3.heap.size 138 1 v' (ss.map rowS ++ [rowS W.heap.size]).length (ss.map rowS ++ [rowS W.heap.size]))
    (hg : ((W.alloc (.cells #[.bool false, .bool false, .bool false] 4)).alloc (.cells #[rowS W.heap.size] 138)).grownBy w6 v.ownBlock) : EnvRc w3 w6 v' (ss ++ [W.heap.size]) := by
  have hs := h.b.size
  have key : ∀ s, BoolsAt W s [false, false, false] → BoolsAt w6 s [false, false, false] := fun s hz => (hg.block s (by have := hz.lt; simp; omega) (fun e => off_bool (by decide) hz h.own e.symm)).trans ((heap_alloc_lt _ _ (by have := hz.lt; simp; omega)).trans ((heap_alloc_lt _ _ hz.lt).trans hz))
  have hnew : BoolsAt w6 W.heap.size [false, false, false] := (hg.block W.heap.size (by simp; omega) (fun e => by have := (h.own.lt _ e.symm).2; omega)).trans ((heap_alloc_lt _ _ (by simp)).trans (heap_alloc_new W _))
  refine ⟨by rw [List.map_append]; exact ho, fun s hm => ?_, ?_, ?_⟩
  · rcases List.mem_append.1 hm with hm | hm
    · exact ⟨key s (h.z s hm).1, (h.z s hm).2⟩
    · obtain rfl := List.mem_singleton.1 hm
      exact ⟨hnew, hs⟩
  · refine List.nodup_append.2 ⟨h.nd, by simp, fun a ha b hb e => ?_⟩
    obtain rfl := List.mem_singleton.1 hb
    have := (h.z a ha).1.lt
    omega
  · exact ((h.b.alloc hs _).alloc (by simp; omega) _).grown hg (by simp; omega) (fun g e => (h.own.lt g e).1)
theorem EnvRc.cm {w3 W : World} {A : Option Addr} {c : Nat} {ss : List Nat} (h : EnvRc w3 W (.slice A 3 c) ss) (hl : ss.length = 3) : ∃ cb s0 s1 s2, A = some ⟨cb, 0, none⟩ ∧ Cm W cb s0 s1 s2 [false, false, false] [false, false, false] [false, false, false] ∧ w3.heap.size ≤ cb ∧ w3.heap.size ≤ s0 ∧ w3.heap.size ≤ s1 ∧ w3.heap.size ≤ s2 := by
  obtain ⟨s0, s1, s2, rfl⟩ : ∃ s0 s1 s2, ss = [s0, s1, s2] := by
    match ss, hl with
    | [a, b, c], _ => exact ⟨a, b, c, rfl⟩
  have ho := h.own
  rcases ho.2 with ⟨e, -⟩ | ⟨g, cap, cur, e, hb, hh, -⟩
  · injection e with e1 e2
    omega
  · injection e with e1 e2 e3
    subst e1
    obtain ⟨y, e, y1, y2, y3⟩ := own_at ho (by simp)
    injection e with e1
    injection e1 with e1
    subst e1
    have q0 := y3 0 _ rfl
    have q1 := y3 1 _ rfl
    have q2 := y3 2 _ rfl
    rw [Go.Joins.cell_of_block hh] at q0 q1 q2
    have hn := h.nd
    simp at hn
    exact ⟨g, s0, s1, s2, rfl, ⟨⟨cur, hh, q0, q1, q2⟩, (h.z s0 (by simp)).1, (h.z s1 (by simp)).1, (h.z s2 (by simp)).1, ⟨hn.1.1, hn.1.2, hn.2⟩⟩, hb, (h.z s0 (by simp)).2, (h.z s1 (by simp)).2, (h.z s2 (by simp)).2⟩
end Go.Proofs.YthgbmhpfblgjcaaGreatDoor.fl
