/-
  Of the reference at the one sample: numbers in order, a list of one. Condition: the list stands.
-/
import Derived.Test.YthgbmhpfblgjcaaGreatDoorReF
import Derived.Test.YthgbmhpfblgjcaaGreatDoorAlC
import Derived.BigQuiet
set_option linter.unusedVariables false
set_option linter.unusedSimpArgs false
namespace Go.Proofs.YthgbmhpfblgjcaaGreatDoor.fl
open Go.RowKit Go.Shelf
open M T ty
set_option linter.unusedVariables false
abbrev zeroLv : Obj := .cells #[.string ⟨#[]⟩, .int .i64 0, .int .i64 0, .slice none 0 0, .slice none 0 0, .slice none 0 0, .slice none 0 0, .slice none 0 0] 135
abbrev lvObj (bb eb ec : Nat) (va vi : Value) : Obj := .cells #[.string ⟨#[102]⟩, .int .i64 2, .int .i64 3, .slice none 0 0, .slice (some ⟨bb, 0, none⟩) 1 1, .slice (some ⟨eb, 0, none⟩) 1 ec, va, vi] 135
/-- found under way: its variable stands at lb -/
structure Fz (w W : World) (fb bb ob lb eb ec : Nat) (va vi : Value) : Prop where
  s : SmB W fb bb ob
  ed : ∃ R rc, W.cell? ⟨eb, 0, none⟩ = some (.slice R 0 rc)
  el : eb < W.heap.size
  lv : W.heap[lb]? = some (lvObj bb eb ec va vi)
  ne : eb ≠ lb
  b : Below w.heap.size w W
  ll : w.heap.size + 2 ≤ lb
  r : W.heap[w.heap.size + 1]? = some zeroLv
  fb0 : fb = w.heap.size
  lo : bb < w.heap.size ∧ ob < w.heap.size
section
variable {w W W' : World} {fb bb ob lb eb ec : Nat} {va vi : Value}
theorem SmB.keep (h : SmB W fb bb ob) (h1 : W'.heap[fb]? = W.heap[fb]?) (h2 : W'.heap[bb]? = W.heap[bb]?) (h3 : W'.heap[ob]? = W.heap[ob]?) : SmB W' fb bb ob := ⟨⟨h2.trans h.sm.b, h3.trans h.sm.o⟩, h1.trans h.box⟩
theorem Fz.lv0 (h : Fz w W fb bb ob lb eb ec va vi) : Lv0 W bb ob eb := ⟨h.s.sm, h.ed, h.el⟩
theorem Fz.lbl (h : Fz w W fb bb ob lb eb ec va vi) : lb < W.heap.size := (Array.getElem?_eq_some_iff.1 h.lv).1
theorem Fz.cells (h : Fz w W fb bb ob lb eb ec va vi) : W.cell? ⟨lb, 0, none⟩ = some (.string ⟨#[102]⟩) ∧ W.cell? ⟨lb, 1, none⟩ = some (.int .i64 2) ∧ W.cell? ⟨lb, 2, none⟩ = some (.int .i64 3) ∧ W.cell? ⟨lb, 3, none⟩ = some (.slice none 0 0) ∧ W.cell? ⟨lb, 4, none⟩ = some (.slice (some ⟨bb, 0, none⟩) 1 1) ∧ W.cell? ⟨lb, 5, none⟩ = some (.slice (some ⟨eb, 0, none⟩) 1 ec) ∧ W.cell? ⟨lb, 6, none⟩ = some va ∧ W.cell? ⟨lb, 7, none⟩ = some vi :=
  ⟨Go.Joins.cell_of_block h.lv 0, Go.Joins.cell_of_block h.lv 1, Go.Joins.cell_of_block h.lv 2, Go.Joins.cell_of_block h.lv 3, Go.Joins.cell_of_block h.lv 4, Go.Joins.cell_of_block h.lv 5, Go.Joins.cell_of_block h.lv 6, Go.Joins.cell_of_block h.lv 7⟩
theorem Fz.free (h : Fz w W fb bb ob lb eb ec va vi) (o : Nat) : W.frozen? ⟨lb, o, none⟩ = false := Go.Joins.unfrozen_of_block h.lv o
theorem Fz.after (h : Fz w W fb bb ob lb eb ec va vi) (hb : Below W.heap.size W W') : Fz w W' fb bb ob lb eb ec va vi :=
  ⟨h.s.after hb, by obtain ⟨R, rc, e⟩ := h.ed; exact ⟨R, rc, (hb.cell (p := ⟨eb, 0, none⟩) h.el).trans e⟩, Nat.lt_of_lt_of_le h.el hb.size, (hb.block lb h.lbl).trans h.lv, h.ne, h.b.trans (hb.mono h.b.size), h.ll, (hb.block _ (by have := h.lbl; have := h.ll; omega)).trans h.r, h.fb0, h.lo⟩
theorem Fz.setq (h : Fz w W fb bb ob lb eb ec va vi) {q o : Nat} (v : Value) (h1 : w.heap.size + 2 ≤ q) (h2 : q ≠ lb) (h3 : q ≠ eb) : Fz w (W.setCell ⟨q, o, none⟩ v) fb bb ob lb eb ec va vi := by
  have h4 := h.fb0
  have h5 := h.lo
  refine ⟨h.s.keep (heap_other _ (by omega)) (heap_other _ (by omega)) (heap_other _ (by omega)), ?_, by rw [World.size_setCell]; exact h.el, (heap_other _ (Ne.symm h2)).trans h.lv, h.ne, h.b.setCell (p := ⟨q, o, none⟩) (by show w.heap.size ≤ q; omega) _, h.ll, (heap_other _ (by omega)).trans h.r, h.fb0, h.lo⟩
  obtain ⟨R, rc, e⟩ := h.ed
  exact ⟨R, rc, (cell_of_heap (p := ⟨eb, 0, none⟩) (heap_other _ (Ne.symm h3))).trans e⟩
theorem Fz.setl (h : Fz w W fb bb ob lb eb ec va vi) {o : Nat} (v va' vi' : Value) (he : #[Value.string ⟨#[102]⟩, .int .i64 2, .int .i64 3, .slice none 0 0, .slice (some ⟨bb, 0, none⟩) 1 1, .slice (some ⟨eb, 0, none⟩) 1 ec, va, vi].setIfInBounds o v = #[Value.string ⟨#[102]⟩, .int .i64 2, .int .i64 3, .slice none 0 0, .slice (some ⟨bb, 0, none⟩) 1 1, .slice (some ⟨eb, 0, none⟩) 1 ec, va', vi']) : Fz w (W.setCell ⟨lb, o, none⟩ v) fb bb ob lb eb ec va' vi' := by
  have h4 := h.fb0
  have h5 := h.lo
  have h6 := h.ll
  refine ⟨h.s.keep (heap_other _ (by omega)) (heap_other _ (by omega)) (heap_other _ (by omega)), ?_, by rw [World.size_setCell]; exact h.el, ?_, h.ne, h.b.setCell (p := ⟨lb, o, none⟩) (by show w.heap.size ≤ lb; omega) _, h.ll, (heap_other _ (by omega)).trans h.r, h.fb0, h.lo⟩
  · obtain ⟨R, rc, e⟩ := h.ed
    exact ⟨R, rc, (cell_of_heap (p := ⟨eb, 0, none⟩) (heap_other _ h.ne)).trans e⟩
  · rw [heap_set h.lv, he]
theorem fz_a {W0 w2 : World} {R : Option Addr} {rc : Nat} (hfb : fb = w.heap.size) (hlo : bb < w.heap.size ∧ ob < w.heap.size) (h0 : SmB W0 fb bb ob) (hb0 : Below w.heap.size w W0) (hsz : W0.heap.size = w.heap.size + 2) (hr : W0.heap[w.heap.size + 1]? = some zeroLv)
    (hb2 : Below W0.drew.heap.size W0.drew w2) (hec : w2.cell? ⟨eb, 0, none⟩ = some (.slice R 0 rc)) (hel : eb < w2.heap.size) : Fz w (w2.alloc (lvObj bb eb ec (.slice none 0 0) (.slice none 0 0))) fb bb ob w2.heap.size eb ec (.slice none 0 0) (.slice none 0 0) := by
  have hb : Below W0.heap.size W0 w2 := ((Below.refl W0.heap.size W0).drew).trans hb2
  have hs := hb.size
  have hal : Below w2.heap.size w2 (w2.alloc (lvObj bb eb ec (.slice none 0 0) (.slice none 0 0))) := (Below.refl _ _).alloc (Nat.le_refl _) _
  refine ⟨(h0.after hb).alloc _, ⟨R, rc, (hal.cell (p := ⟨eb, 0, none⟩) hel).trans hec⟩, Nat.lt_of_lt_of_le hel hal.size, heap_alloc_new w2 _, by omega, ?_, by omega, ?_, hfb, hlo⟩
  · have h1 := hb0.trans (hb.mono hb0.size)
    exact h1.alloc h1.size _
  · exact (hal.block _ (by omega)).trans ((hb.block _ (by omega)).trans hr)
set_option maxHeartbeats 4000000 in
theorem chain8 {a0 a1 a2 a3 a4 a5 a6 a7 v0 v1 v2 v3 v4 v5 v6 v7 : Value} (h : W.heap[lb]? = some (.cells #[a0, a1, a2, a3, a4, a5, a6, a7] 135 (0, 0))) :
    ((((((((W.setCell ⟨lb, 0, none⟩ v0).setCell ⟨lb, 1, none⟩ v1).setCell ⟨lb, 2, none⟩ v2).setCell ⟨lb, 3, none⟩ v3).setCell ⟨lb, 4, none⟩ v4).setCell ⟨lb, 5, none⟩ v5).setCell ⟨lb, 6, none⟩ v6).setCell ⟨lb, 7, none⟩ v7).heap[lb]? = some (.cells #[v0, v1, v2, v3, v4, v5, v6, v7] 135 (0, 0)) := by
  have h0 := heap_set (o := 0) h v0
  rw [show (#[a0, a1, a2, a3, a4, a5, a6, a7] : Array Value).setIfInBounds 0 v0 = #[v0, a1, a2, a3, a4, a5, a6, a7] from rfl] at h0
  have h1 := heap_set (o := 1) h0 v1
  rw [show (#[v0, a1, a2, a3, a4, a5, a6, a7] : Array Value).setIfInBounds 1 v1 = #[v0, v1, a2, a3, a4, a5, a6, a7] from rfl] at h1
  have h2 := heap_set (o := 2) h1 v2
  rw [show (#[v0, v1, a2, a3, a4, a5, a6, a7] : Array Value).setIfInBounds 2 v2 = #[v0, v1, v2, a3, a4, a5, a6, a7] from rfl] at h2
  have h3 := heap_set (o := 3) h2 v3
  rw [show (#[v0, v1, v2, a3, a4, a5, a6, a7] : Array Value).setIfInBounds 3 v3 = #[v0, v1, v2, v3, a4, a5, a6, a7] from rfl] at h3
  have h4 := heap_set (o := 4) h3 v4
  rw [show (#[v0, v1, v2, v3, a4, a5, a6, a7] : Array Value).setIfInBounds 4 v4 = #[v0, v1, v2, v3, v4, a5, a6, a7] from rfl] at h4
  have h5 := heap_set (o := 5) h4 v5
  rw [show (#[v0, v1, v2, v3, v4, a5, a6, a7] : Array Value).setIfInBounds 5 v5 = #[v0, v1, v2, v3, v4, v5, a6, a7] from rfl] at h5
  have h6 := heap_set (o := 6) h5 v6
  rw [show (#[v0, v1, v2, v3, v4, v5, a6, a7] : Array Value).setIfInBounds 6 v6 = #[v0, v1, v2, v3, v4, v5, v6, a7] from rfl] at h6
  have h7 := heap_set (o := 7) h6 v7
  rw [show (#[v0, v1, v2, v3, v4, v5, v6, a7] : Array Value).setIfInBounds 7 v7 = #[v0, v1, v2, v3, v4, v5, v6, v7] from rfl] at h7
  exact h7
set_option maxHeartbeats 4000000 in
theorem chain8_other {k : Nat} {v0 v1 v2 v3 v4 v5 v6 v7 : Value} (h : k ≠ lb) : ((((((((W.setCell ⟨lb, 0, none⟩ v0).setCell ⟨lb, 1, none⟩ v1).setCell ⟨lb, 2, none⟩ v2).setCell ⟨lb, 3, none⟩ v3).setCell ⟨lb, 4, none⟩ v4).setCell ⟨lb, 5, none⟩ v5).setCell ⟨lb, 6, none⟩ v6).setCell ⟨lb, 7, none⟩ v7).heap[k]? = W.heap[k]? := by
  rw [heap_other _ h, heap_other _ h, heap_other _ h, heap_other _ h, heap_other _ h, heap_other _ h, heap_other _ h, heap_other _ h]
set_option maxHeartbeats 4000000 in
theorem chain8_below {B : Nat} {a : World} {v0 v1 v2 v3 v4 v5 v6 v7 : Value} (h : Below B a W) (hB : B ≤ lb) : Below B a ((((((((W.setCell ⟨lb, 0, none⟩ v0).setCell ⟨lb, 1, none⟩ v1).setCell ⟨lb, 2, none⟩ v2).setCell ⟨lb, 3, none⟩ v3).setCell ⟨lb, 4, none⟩ v4).setCell ⟨lb, 5, none⟩ v5).setCell ⟨lb, 6, none⟩ v6).setCell ⟨lb, 7, none⟩ v7) :=
  (((((((h.setCell (p := ⟨lb, 0, none⟩) hB _).setCell (p := ⟨lb, 1, none⟩) hB _).setCell (p := ⟨lb, 2, none⟩) hB _).setCell (p := ⟨lb, 3, none⟩) hB _).setCell (p := ⟨lb, 4, none⟩) hB _).setCell (p := ⟨lb, 5, none⟩) hB _).setCell (p := ⟨lb, 6, none⟩) hB _).setCell (p := ⟨lb, 7, none⟩) hB _
set_option maxHeartbeats 4000000 in
theorem fz_b {W0 w2 : World} {R : Option Addr} {rc : Nat} (hfb : fb = w.heap.size) (hlo : bb < w.heap.size ∧ ob < w.heap.size) (h0 : SmB W0 fb bb ob) (hb0 : Below w.heap.size w W0) (hsz : W0.heap.size = w.heap.size + 2) (hr : W0.heap[w.heap.size + 1]? = some zeroLv)
    (hb2 : Below (W0.alloc zeroLv).drew.heap.size (W0.alloc zeroLv).drew w2) (hec : w2.cell? ⟨eb, 0, none⟩ = some (.slice R 0 rc)) (hel : eb < w2.heap.size) : Fz w ((((((((w2.setCell ⟨W0.heap.size, 0, none⟩ (.string ⟨#[102]⟩)).setCell ⟨W0.heap.size, 1, none⟩ (.int .i64 2)).setCell ⟨W0.heap.size, 2, none⟩ (.int .i64 3)).setCell ⟨W0.heap.size, 3, none⟩ (.slice none 0 0)).setCell ⟨W0.heap.size, 4, none⟩ (.slice (some ⟨bb, 0, none⟩) 1 1)).setCell ⟨W0.heap.size, 5, none⟩ (.slice (some ⟨eb, 0, none⟩) 1 ec)).setCell ⟨W0.heap.size, 6, none⟩ (.slice none 0 0)).setCell ⟨W0.heap.size, 7, none⟩ (.slice none 0 0)) fb bb ob W0.heap.size eb ec (.slice none 0 0) (.slice none 0 0) := by
  have hal : Below W0.heap.size W0 (W0.alloc zeroLv) := (Below.refl _ _).alloc (Nat.le_refl _) _
  have hbz : Below (W0.alloc zeroLv).heap.size (W0.alloc zeroLv) w2 := ((Below.refl _ _).drew).trans hb2
  have hb : Below W0.heap.size W0 w2 := hal.trans (hbz.mono hal.size)
  have hx2 : w2.heap[W0.heap.size]? = some zeroLv := (hbz.block W0.heap.size (by simp)).trans (heap_alloc_new W0 _)
  have hne : eb ≠ W0.heap.size := fun e => by
    have h9 := Go.Joins.cell_of_block hx2 0
    rw [e] at hec
    have := hec.symm.trans h9
    simp at this
  have h1 := hb0.trans (hb.mono hb0.size)
  refine ⟨(h0.after hb).keep (chain8_other (by omega)) (chain8_other (by omega)) (chain8_other (by omega)), ⟨R, rc, (cell_of_heap (p := ⟨eb, 0, none⟩) (chain8_other hne)).trans hec⟩, ?_, chain8 hx2, hne, chain8_below h1 (by omega), by omega, ?_, hfb, hlo⟩
  · simp only [World.size_setCell]
    exact hel
  · exact (chain8_other (by omega)).trans ((hb.block _ (by omega)).trans hr)
end
theorem info138 : (Tryz.prog.info? 138).map (fun i => (i.zero, i.size, i.bytes)) = some (some (.slice none 0 0), 1, 24) := by kernel_rfl
/-- what is live at the block's beginning stands at tb -/
structure Fy (w W : World) (fb bb ob lb eb ec ab ib ic tb : Nat) (bs : List Bool) : Prop where
  z : Fz w W fb bb ob lb eb ec (.slice (some ⟨ab, 0, none⟩) 1 1) (.slice (some ⟨ib, 0, none⟩) 1 ic)
  a : BoolsAt W ab [true]
  i : ∃ cs, W.heap[ib]? = some (.cells cs 138 (0, 0)) ∧ cs[0]? = some (.slice (some ⟨tb, 0, none⟩) 3 3)
  t : BoolsAt W tb bs
  ni : ib ≠ lb ∧ ib ≠ eb ∧ w.heap.size + 2 ≤ ib
section
variable {w W W' : World} {fb bb ob lb eb ec ab ib ic tb : Nat} {bs : List Bool}
theorem Fy.ibl (h : Fy w W fb bb ob lb eb ec ab ib ic tb bs) : ib < W.heap.size := by
  obtain ⟨cs, h1, h2⟩ := h.i
  exact (Array.getElem?_eq_some_iff.1 h1).1
theorem Fy.cell (h : Fy w W fb bb ob lb eb ec ab ib ic tb bs) : W.cell? ⟨ib, 0, none⟩ = some (.slice (some ⟨tb, 0, none⟩) 3 3) := by
  obtain ⟨cs, h1, h2⟩ := h.i
  exact (Go.Joins.cell_of_block h1 0).trans h2
theorem Fy.free (h : Fy w W fb bb ob lb eb ec ab ib ic tb bs) : W.frozen? ⟨ib, 0, none⟩ = false := by
  obtain ⟨cs, h1, h2⟩ := h.i
  exact Go.Joins.unfrozen_of_block h1 0
theorem Fy.after (h : Fy w W fb bb ob lb eb ec ab ib ic tb bs) (hb : Below W.heap.size W W') : Fy w W' fb bb ob lb eb ec ab ib ic tb bs :=
  ⟨h.z.after hb, h.a.below hb h.a.lt, by obtain ⟨cs, h1, h2⟩ := h.i; exact ⟨cs, (hb.block ib (Array.getElem?_eq_some_iff.1 h1).1).trans h1, h2⟩, h.t.below hb h.t.lt, h.ni⟩
theorem Fy.put (h : Fy w W fb bb ob lb eb ec ab ib ic tb bs) {tb' : Nat} {bs' : List Bool} (ht : BoolsAt W tb' bs') : Fy w (W.setCell ⟨ib, 0, none⟩ (.slice (some ⟨tb', 0, none⟩) 3 3)) fb bb ob lb eb ec ab ib ic tb' bs' := by
  obtain ⟨cs, h1, h2⟩ := h.i
  have key : ∀ g l, BoolsAt W g l → g ≠ ib := fun g l hg e => by
    rw [e] at hg
    have := hg.symm.trans h1
    simp at this
  refine ⟨h.z.setq _ h.ni.2.2 h.ni.1 h.ni.2.1, (heap_other _ (key _ _ h.a)).trans h.a, ⟨_, heap_set h1 _, ?_⟩, (heap_other _ (key _ _ ht)).trans ht, h.ni⟩
  have : 0 < cs.size := (Array.getElem?_eq_some_iff.1 h2).1
  simp [this]
theorem Fy.last (h : Fy w W fb bb ob lb eb ec ab ib ic tb bs) {v0 v1 v2 v3 v4 v5 v6 v7 : Value} (W9 : World) (hW : W9 = (((((((W.setCell ⟨fb + 1, 0, none⟩ v0).setCell ⟨fb + 1, 1, none⟩ v1).setCell ⟨fb + 1, 2, none⟩ v2).setCell ⟨fb + 1, 3, none⟩ v3).setCell ⟨fb + 1, 4, none⟩ v4).setCell ⟨fb + 1, 5, none⟩ v5).setCell ⟨fb + 1, 6, none⟩ v6).setCell ⟨fb + 1, 7, none⟩ v7) :
    Lv0 W9 bb ob eb ∧ BoolsAt W9 ab [true] ∧ W9.cell? ⟨ib, 0, none⟩ = some (.slice (some ⟨tb, 0, none⟩) 3 3) ∧ ib < W9.heap.size ∧ BoolsAt W9 tb bs ∧ Below w.heap.size w W9 := by
  have hr := h.z.r
  have hf := h.z.fb0
  rw [← hf] at hr
  have key : ∀ g l, BoolsAt W g l → g ≠ fb + 1 := fun g l hg e => by
    rw [e] at hg
    have := hg.symm.trans hr
    simp at this
  have ho : ∀ k, k ≠ fb + 1 → W9.heap[k]? = W.heap[k]? := fun k hk => by rw [hW]; exact chain8_other hk
  have hs : W9.heap.size = W.heap.size := by rw [hW]; simp only [World.size_setCell]
  have he : eb ≠ fb + 1 := fun e => by
    obtain ⟨R, rc, hc⟩ := h.z.ed
    have h9 := Go.Joins.cell_of_block hr 0
    rw [e] at hc
    have := hc.symm.trans h9
    simp at this
  have hlo := h.z.lo
  refine ⟨⟨⟨(ho _ (by omega)).trans h.z.s.sm.b, (ho _ (by omega)).trans h.z.s.sm.o⟩, ?_, by rw [hs]; exact h.z.el⟩, (ho _ (key _ _ h.a)).trans h.a, (cell_of_heap (p := ⟨ib, 0, none⟩) (ho ib (by have := h.ni.2.2; omega))).trans h.cell, by rw [hs]; exact h.ibl, (ho _ (key _ _ h.t)).trans h.t, ?_⟩
  · obtain ⟨R, rc, hc⟩ := h.z.ed
    exact ⟨R, rc, (cell_of_heap (p := ⟨eb, 0, none⟩) (ho eb he)).trans hc⟩
  · rw [hW]
    exact chain8_below h.z.b (by omega)
theorem fy_new {va vi : Value} (h : Fz w W fb bb ob lb eb ec (.slice (some ⟨ab, 0, none⟩) 1 1) (.slice none 0 0)) (ha : BoolsAt W ab [true]) (hlb : lb ≠ ab) {w6 : World} {A : Option Addr} (ho : w6.ownsRow W.heap.size 138 1 (.slice A 1 ic) 1 [.slice (some ⟨W.heap.size, 0, none⟩) 3 3])
    (hg : ((W.drew.alloc (.cells #[.bool false, .bool false, .bool false] 4)).alloc (.cells #[.slice (some ⟨W.heap.size, 0, none⟩) 3 3] 138)).grownBy w6 none) : ∃ ib, A = some ⟨ib, 0, none⟩ ∧ w6.cell? ⟨lb, 7, none⟩ = some (.slice none 0 0) ∧ w6.frozen? ⟨lb, 7, none⟩ = false ∧ Fy w (w6.setCell ⟨lb, 7, none⟩ (.slice A 1 ic)) fb bb ob lb eb ec ab ib ic W.heap.size [false, false, false] := by
  have hal : Below W.heap.size W ((W.drew.alloc (.cells #[.bool false, .bool false, .bool false] 4)).alloc (.cells #[.slice (some ⟨W.heap.size, 0, none⟩) 3 3] 138)) := (((Below.refl W.heap.size W).drew).alloc (Nat.le_refl _) _).alloc (by simp) _
  have hb6 : Below W.heap.size W w6 := hal.grown hg hal.size (fun g e => by cases e)
  have hz6 : BoolsAt w6 W.heap.size [false, false, false] := (hg.block W.heap.size (by simp; omega) (fun e => by cases e)).trans ((heap_alloc_lt _ _ (by simp)).trans (heap_alloc_new W.drew _))
  have h6 := h.after hb6
  rcases ho.2 with ⟨e, -⟩ | ⟨g, cap, cur, e, hb, hh, -⟩
  · injection e with e1 e2
    omega
  · injection e with e1 e2
    subst e1
    obtain ⟨y, e, y1, y2, y3⟩ := own_at ho (by simp)
    injection e with e1
    injection e1 with e1
    subst e1
    have hc := y3 0 _ rfl
    have hlg : g ≠ lb := by have := h.lbl; omega
    refine ⟨g, rfl, h6.cells.2.2.2.2.2.2.2, h6.free 7, h6.setl (o := 7) _ _ _ rfl, (heap_other _ (Ne.symm hlb)).trans (ha.below hb6 ha.lt), ⟨cur, (heap_other _ hlg).trans hh, ?_⟩, (heap_other _ (by have := h.lbl; omega)).trans hz6, hlg, by have := h.el; omega, by have := h.lbl; have := h.ll; omega⟩
    exact (Go.Joins.cell_of_block hh 0).symm.trans hc
end
end Go.Proofs.YthgbmhpfblgjcaaGreatDoor.fl
namespace Go.Proofs.YthgbmhpfblgjcaaGreatDoor.fl
open Go.RowKit Go.Shelf
open M T ty
set_option linter.unusedVariables false
theorem small_fin (w : World) : (((w.alloc (.cells #[.string ⟨#[102]⟩, .int .i64 2, .int .i64 3, .slice none 0 0, .slice (some ⟨w.heap.size + 1 + 1, 0, none⟩) 1 1] 25)).alloc (.cells #[.int .i64 3, .int .i64 2, .int .i64 0, .int .i64 1, .int .i64 0, .string ⟨#[]⟩, .slice none 0 0] 72)).alloc (.cells #[.slice (some ⟨w.heap.size + 1, 0, none⟩) 1 1, .int .i64 3, .int .i64 2, .int .i64 (-1), .int .i64 0, .int .i64 0] 52)).heap[w.heap.size]? = some (.cells #[.string ⟨#[102]⟩, .int .i64 2, .int .i64 3, .slice none 0 0, .slice (some ⟨w.heap.size + 1 + 1, 0, none⟩) 1 1] 25 (0, 0)) ∧ Sm (((w.alloc (.cells #[.string ⟨#[102]⟩, .int .i64 2, .int .i64 3, .slice none 0 0, .slice (some ⟨w.heap.size + 1 + 1, 0, none⟩) 1 1] 25)).alloc (.cells #[.int .i64 3, .int .i64 2, .int .i64 0, .int .i64 1, .int .i64 0, .string ⟨#[]⟩, .slice none 0 0] 72)).alloc (.cells #[.slice (some ⟨w.heap.size + 1, 0, none⟩) 1 1, .int .i64 3, .int .i64 2, .int .i64 (-1), .int .i64 0, .int .i64 0] 52)) (w.heap.size + 1 + 1) (w.heap.size + 1) ∧ Below w.heap.size w (((w.alloc (.cells #[.string ⟨#[102]⟩, .int .i64 2, .int .i64 3, .slice none 0 0, .slice (some ⟨w.heap.size + 1 + 1, 0, none⟩) 1 1] 25)).alloc (.cells #[.int .i64 3, .int .i64 2, .int .i64 0, .int .i64 1, .int .i64 0, .string ⟨#[]⟩, .slice none 0 0] 72)).alloc (.cells #[.slice (some ⟨w.heap.size + 1, 0, none⟩) 1 1, .int .i64 3, .int .i64 2, .int .i64 (-1), .int .i64 0, .int .i64 0] 52)) :=
  ⟨al3_0 w _ _ _, ⟨al3_2 w _ _ _, al3_1 w _ _ _⟩, (((Below.refl _ _).alloc (Nat.le_refl _) _).alloc (by simp) _).alloc (by simp; omega) _⟩
set_option maxHeartbeats 1000000 in
theorem small_19 (w : World) : Calls Tryz.prog 19 #[] w fun e w' => ∃ bb ob, e = .returned (smV bb) ∧ Sm w' bb ob ∧ Below w.heap.size w w' := by
  have HF := Lib.hid (small_fin w)
  unfold smV
  go_enter Tryz.func19, Tryz.ntmps19
  go_wp2_with fail
  obtain ⟨hc, hs, hb⟩ := HF.out
  clear HF
  generalize ((w.alloc (.cells #[.string ⟨#[102]⟩, .int .i64 2, .int .i64 3, .slice none 0 0, .slice (some ⟨w.heap.size + 1 + 1, 0, none⟩) 1 1] 25)).alloc (.cells #[.int .i64 3, .int .i64 2, .int .i64 0, .int .i64 1, .int .i64 0, .string ⟨#[]⟩, .slice none 0 0] 72)).alloc (.cells #[.slice (some ⟨w.heap.size + 1, 0, none⟩) 1 1, .int .i64 3, .int .i64 2, .int .i64 (-1), .int .i64 0, .int .i64 0] 52) = W9 at *
  have c0 := Go.Joins.cell_of_block hc 0
  have c1 := Go.Joins.cell_of_block hc 1
  have c2 := Go.Joins.cell_of_block hc 2
  have c3 := Go.Joins.cell_of_block hc 3
  have c4 := Go.Joins.cell_of_block hc 4
  have HS := Lib.hid hs
  have HB := Lib.hid hb
  clear hc hs hb
  refine bodyPost_ret (v := .agg #[.string ⟨#[102]⟩, .int .i64 2, .int .i64 3, .slice none 0 0, .slice (some ⟨w.heap.size + 1 + 1, 0, none⟩) 1 1]) (by rw [results_cell1 rfl]; go_simp) rfl ?_
  exact ⟨_, _, rfl, HS.out, HB.out⟩
/-- three sets of three -/
structure Cm (W : World) (cb s0 s1 s2 : Nat) (l0 l1 l2 : List Bool) : Prop where
  c : ∃ cs, W.heap[cb]? = some (.cells cs 138 (0, 0)) ∧ cs[0]? = some (.slice (some ⟨s0, 0, none⟩) 3 3) ∧ cs[1]? = some (.slice (some ⟨s1, 0, none⟩) 3 3) ∧ cs[2]? = some (.slice (some ⟨s2, 0, none⟩) 3 3)
  b0 : BoolsAt W s0 l0
  b1 : BoolsAt W s1 l1
  b2 : BoolsAt W s2 l2
  ne : s0 ≠ s1 ∧ s0 ≠ s2 ∧ s1 ≠ s2
section
variable {W W' : World} {cb s0 s1 s2 : Nat} {l0 l1 l2 : List Bool}
theorem Cm.cells (h : Cm W cb s0 s1 s2 l0 l1 l2) : W.cell? ⟨cb, 0, none⟩ = some (.slice (some ⟨s0, 0, none⟩) 3 3) ∧ W.cell? ⟨cb, 1, none⟩ = some (.slice (some ⟨s1, 0, none⟩) 3 3) ∧ W.cell? ⟨cb, 2, none⟩ = some (.slice (some ⟨s2, 0, none⟩) 3 3) ∧ cb < W.heap.size := by
  obtain ⟨cs, h1, h2, h3, h4⟩ := h.c
  exact ⟨(Go.Joins.cell_of_block h1 0).trans h2, (Go.Joins.cell_of_block h1 1).trans h3, (Go.Joins.cell_of_block h1 2).trans h4, (Array.getElem?_eq_some_iff.1 h1).1⟩
theorem Cm.nc (h : Cm W cb s0 s1 s2 l0 l1 l2) : cb ≠ s0 ∧ cb ≠ s1 ∧ cb ≠ s2 := by
  obtain ⟨cs, h1, -⟩ := h.c
  have key : ∀ g l, BoolsAt W g l → cb ≠ g := fun g l hg e => by
    rw [← e] at hg
    have := hg.symm.trans h1
    simp at this
  exact ⟨key _ _ h.b0, key _ _ h.b1, key _ _ h.b2⟩
theorem Cm.keep (h : Cm W cb s0 s1 s2 l0 l1 l2) (hk : ∀ k, k = cb ∨ k = s0 ∨ k = s1 ∨ k = s2 → W'.heap[k]? = W.heap[k]?) : Cm W' cb s0 s1 s2 l0 l1 l2 := by
  obtain ⟨cs, h1, h2⟩ := h.c
  exact ⟨⟨cs, (hk cb (.inl rfl)).trans h1, h2⟩, (hk _ (.inr (.inl rfl))).trans h.b0, (hk _ (.inr (.inr (.inl rfl)))).trans h.b1, (hk _ (.inr (.inr (.inr rfl)))).trans h.b2, h.ne⟩
theorem Cm.after (h : Cm W cb s0 s1 s2 l0 l1 l2) (hb : Below W.heap.size W W') : Cm W' cb s0 s1 s2 l0 l1 l2 := h.keep fun k hk => hb.block k (by
  rcases hk with rfl | rfl | rfl | rfl
  · exact h.cells.2.2.2
  · exact h.b0.lt
  · exact h.b1.lt
  · exact h.b2.lt)
theorem Cm.set0 (h : Cm W cb s0 s1 s2 l0 l1 l2) (j : Nat) (b : Bool) : Cm (W.setCell ⟨s0, j, none⟩ (.bool b)) cb s0 s1 s2 (l0.set j b) l1 l2 := by
  obtain ⟨cs, h1, h2⟩ := h.c
  exact ⟨⟨cs, (heap_other _ h.nc.1).trans h1, h2⟩, h.b0.set j b, (heap_other _ (Ne.symm h.ne.1)).trans h.b1, (heap_other _ (Ne.symm h.ne.2.1)).trans h.b2, h.ne⟩
theorem Cm.set1 (h : Cm W cb s0 s1 s2 l0 l1 l2) (j : Nat) (b : Bool) : Cm (W.setCell ⟨s1, j, none⟩ (.bool b)) cb s0 s1 s2 l0 (l1.set j b) l2 := by
  obtain ⟨cs, h1, h2⟩ := h.c
  exact ⟨⟨cs, (heap_other _ h.nc.2.1).trans h1, h2⟩, (heap_other _ h.ne.1).trans h.b0, h.b1.set j b, (heap_other _ (Ne.symm h.ne.2.2)).trans h.b2, h.ne⟩
end
/-- what is written is written in the sets alone -/
structure Wrt (W W' : World) (s0 s1 : Nat) : Prop where
  o : ∀ k, k ≠ s0 → k ≠ s1 → W'.heap[k]? = W.heap[k]?
  s : W'.heap.size = W.heap.size
  b : ∀ B a, Below B a W → B ≤ s0 → B ≤ s1 → Below B a W'
set_option maxRecDepth 20000 in
set_option maxHeartbeats 4000000 in
theorem written_0 {cb s0 s1 s2 c tb : Nat} {l0 l1 l2 : List Bool} (w : World) (h : Cm w cb s0 s1 s2 l0 l1 l2) (h0 : l0.length = 3) (h1 : l1.length = 3) (ht : BoolsAt w tb [true, true, false]) (hn : tb ≠ s0 ∧ tb ≠ s1) :
    Calls Tryz.prog 76 #[.slice (some ⟨cb, 0, none⟩) 3 c, .int .i64 0, .slice (some ⟨tb, 0, none⟩) 3 3, .int .i64 (-1)] w fun e w' => e = .returned (.tuple #[]) ∧ Cm w' cb s0 s1 s2 (l0.set 1 true) (l1.set 0 true) l2 ∧ Wrt w w' s0 s1 := by
  obtain ⟨c0, c1, c2, cl⟩ := h.cells
  obtain ⟨n0, n1, n2⟩ := h.nc
  obtain ⟨m0, m1, m2⟩ := h.ne
  have t0 := ht.cell (j := 0) rfl
  have t1 := ht.cell (j := 1) rfl
  have t2 := ht.cell (j := 2) rfl
  have z0 := h.b0.cell (j := 1) (List.getElem?_eq_getElem (by omega))
  have zf := h.b0.unfrozen 1
  have z1 := h.b1.cell (j := 0) (List.getElem?_eq_getElem (by omega))
  have zg := h.b1.unfrozen 0
  have H2 := Lib.hid ((h.set0 1 true).set1 0 true)
  have hn0 := hn.1
  have hn1 := hn.2
  have HW : Hid (Wrt w ((w.setCell ⟨s0, 1, none⟩ (.bool true)).setCell ⟨s1, 0, none⟩ (.bool true)) s0 s1) := Lib.hid ⟨fun k a b => (heap_other _ b).trans (heap_other _ a), by simp only [World.size_setCell], fun B a hb x y => (hb.setCell (p := ⟨s0, 1, none⟩) x _).setCell (p := ⟨s1, 0, none⟩) y _⟩
  clear h ht hn
  go_enter Tryz.func76, Tryz.ntmps76
  go_wp2_with fail
  refine wp_loop_rounds 4 ?_
  rw [rounds_succ]
  go_wp2_with fail
  rw [rounds_succ]
  go_wp2_with fail
  rw [rounds_succ]
  go_wp2_with fail
  rw [rounds_succ]
  go_wp2_with fail
  go_end0
  exact ⟨rfl, H2.out, HW.out⟩
theorem isSet_84 (bb ob ab : Nat) (w : World) (h : Sm w bb ob) (ha : BoolsAt w ab [true]) : Calls Tryz.prog 84 #[smV bb, .slice (some ⟨ab, 0, none⟩) 1 1, .int .i64 0] w fun e w' => e = .returned (.bool false) ∧ Below w.heap.size w w' := by
  have hb := (Below.refl w.heap.size w).alloc (Nat.le_refl _) (.cells #[.string ⟨#[102]⟩, .int .i64 2, .int .i64 3, .slice none 0 0, .slice (some ⟨bb, 0, none⟩) 1 1] 25)
  have h2 := h.boxed
  obtain ⟨c0, c1, c2, c3, c4⟩ := h2.cells
  obtain ⟨b0, b1, b2, b3, b4, b5⟩ := h2.sm.bcells
  have a0 := (ha.below hb ha.lt).cell (j := 0) rfl
  have l0 := h2.fl
  have l1 := h2.sm.bl
  clear h h2 ha
  unfold smV
  go_enter Tryz.func84, Tryz.ntmps84
  go_wp2_with fail
  go_ret
  exact ⟨rfl, hb⟩
end Go.Proofs.YthgbmhpfblgjcaaGreatDoor.fl
namespace Go.Proofs.YthgbmhpfblgjcaaGreatDoor.fl
open Go.RowKit Go.Shelf
open M T ty
set_option linter.unusedVariables false
set_option maxRecDepth 20000 in
set_option maxHeartbeats 4000000 in
theorem Rising_one (g c : Nat) (x : Int) (w : World) (h : w.cell? ⟨g, 0, none⟩ = some (.int .i64 x)) (hg : g < w.heap.size) : Calls Tryz.prog 83 #[.slice (some ⟨g, 0, none⟩) 1 c] w fun e w' => ∃ R rc, e = .returned (.slice R 1 rc) ∧ Below w.heap.size w w' := by
  have HO0 := Lib.hid (own_zero w w.heap.size (Nat.le_refl _) 3)
  have HB0 := Lib.hid ((Below.refl w.heap.size w).alloc (Nat.le_refl _) (.cells #[] 3))
  have h1 := (HB0.out.cell (p := ⟨g, 0, none⟩) hg).trans h
  have hg1 : g < (w.alloc (.cells #[] 3)).heap.size := by simp; omega
  clear h
  go_enter Tryz.func83, Tryz.ntmps83
  go_wp2_with fail
  have hz1 : (w.alloc (.cells #[] 3)).heap.size = w.heap.size + 1 := World.size_alloc _ _
  generalize w.alloc (.cells #[] 3) = W1 at *
  generalize hn : w.heap.size = n at *
  have HN := Lib.hid hn
  clear hn
  refine wp_loop_rounds 2 ?_
  rw [rounds_succ]
  go_wp2_with fail
  refine wp_loop_rounds 1 ?_
  rw [rounds_succ]
  go_upto_region 6 with fail
  go_quiet (fail)
  have hA : (W1.drewN nq).cell? ⟨g, 0, none⟩ = some (.int .i64 x) := h1
  have HA : Hid ((W1.drewN nq).ownsRow n 3 1 (.slice (some ⟨n, 0, none⟩) 0 0) 0 []) := Lib.hid HO0.out
  have HC : Hid (Below n w (W1.drewN nq)) := Lib.hid ⟨HB0.out.os, HB0.out.tape, HB0.out.output, HB0.out.size, HB0.out.block⟩
  have hD : (W1.drewN nq).heap.size = n + 1 := hz1
  have hE : g < (W1.drewN nq).heap.size := hg1
  clear h1 hz1 HO0 HB0 hg1
  generalize W1.drewN nq = Wa at *
  go_upto_region 8 with fail
  go_quiet (fail)
  have h2 : (Wa.drewN nq).cell? ⟨g, 0, none⟩ = some (.int .i64 x) := hA
  have HO2 : Hid ((Wa.drewN nq).ownsRow n 3 1 (.slice (some ⟨n, 0, none⟩) 0 0) 0 []) := Lib.hid HA.out
  have HB2 : Hid (Below n w (Wa.drewN nq)) := Lib.hid ⟨HC.out.os, HC.out.tape, HC.out.output, HC.out.size, HC.out.block⟩
  have hz2 : (Wa.drewN nq).heap.size = n + 1 := hD
  have hg2 : g < (Wa.drewN nq).heap.size := hE
  clear hA hD HA HC hE
  generalize Wa.drewN nq = W2 at *
  go_upto_region 9 with fail
  obtain ⟨i1, hj, hy0, hy1, hy2⟩ := info_parts info3
  have hone := IntsAt.one W2.drew n (by show n ≤ W2.heap.size; omega) x
  have HOW : Hid ((W2.drew.alloc (.cells #[.int .i64 x] 3)).ownsRow n 3 1 (.slice (some ⟨W2.heap.size, 0, none⟩) 1 1) 1 [.int .i64 x]) := Lib.hid (by
    obtain ⟨A, c, e, ho⟩ := hone
    injection e with e1 e2 e3
    subst e1
    subst e3
    exact ho)
  have HOK : Hid (∀ w6, (W2.drew.alloc (.cells #[.int .i64 x] 3)).grownBy w6 (some W2.heap.size) → w6.ownsRow n 3 1 (.slice (some ⟨n, 0, none⟩) 0 0) 0 [] ∧ Below n w w6 ∧ n ≤ w6.heap.size) := Lib.hid fun w6 hg6 => by
    have hbz := HB2.out.size
    refine ⟨own_same HO2.out fun k hk => ?_, ?_, ?_⟩
    · have e : n = k := by simpa [Value.ownBlock] using hk
      subst e
      exact (hg6.block n (by simp; omega) (fun e => by have := Option.some.inj e; omega)).trans (heap_alloc_lt W2.drew _ (by show n < W2.heap.size; omega))
    · exact ((HB2.out.drew).alloc (by show n ≤ W2.heap.size; omega) _).grown hg6 (by simp; omega) (fun k hk => by have := Option.some.inj hk; omega)
    · have := hg6.size; simp at this; omega
  have hx1 : 1 + 0 ≤ maxLen := by simp [maxLen]
  have hx2 : (1 + 0) * 8 ≤ 140737488355328 := by omega
  have hx3 : 0 + 1 ≤ maxLen := by simp [maxLen]
  have hx4 : (0 + 1) * 8 ≤ 140737488355328 := by omega
  clear hone
  go_region_law (first
    | (refine step_append_rd _ rfl (.tmp 47) (.tmp 56) 27 rfl n 3 i1 _ 1 8 Tryz.underlying27 hj hy0 hy1 hy2 rfl (by omega) (.slice (some ⟨n, 0, none⟩) 0 0) 0 [] (by simp [Act.eval, Act.put]) (by exact HK6.out.1) _ A6 1 c6 [.int .i64 x] (by simp [Act.eval, Act.put]) rfl (by exact Rd.of_own HO6.out) (by exact HONE.out) hx3 hx4 (by exact HK6.out.2.2) ?_; intro v7 w7 ho7 hg7 hv7; obtain ⟨A7, c7, rfl, -, -⟩ := own_form ho7; have HB7 := Lib.hid (HK6.out.2.1.grown hg7 HK6.out.2.2 (fun k hk => by have : n = k := (by simpa [Value.ownBlock] using hk); omega)); clear ho7 hg7 hv7)
    | (refine step_append_rd _ rfl (.tmp 52) (.tmp 55) 27 rfl n 3 i1 _ 1 8 Tryz.underlying27 hj hy0 hy1 hy2 rfl (by omega) (.slice (some ⟨W2.heap.size, 0, none⟩) 1 1) 1 [.int .i64 x] (by simp [Act.eval, Act.put]) (by exact HOW.out) 0 (some ⟨n, 0, none⟩) 0 0 [] (by simp [Act.eval, Act.put]) rfl (by exact fun h => absurd rfl h) (by exact fun u hu => by cases hu) hx1 hx2 (by simp; omega) ?_; intro v6 w6 ho6 hg6 hv6; obtain ⟨A6, c6, rfl, -, -⟩ := own_form ho6; have HK6 := Lib.hid (HOK.out w6 hg6); have HO6 : Hid (w6.ownsRow n 3 1 (.slice A6 1 c6) 1 [.int .i64 x]) := Lib.hid ho6; have HONE : Hid (∀ u ∈ [Value.int .i64 x], u.oneCell' = true) := Lib.hid (fun u hu => by have : u = .int .i64 x := (by simpa using hu); rw [this]; rfl); clear ho6 hg6 hv6))
  go_wp2_with fail
  rw [rounds_succ]
  go_wp2_with fail
  go_ret
  exact ⟨_, _, rfl, by rw [HN.out]; exact HB7.out⟩
end Go.Proofs.YthgbmhpfblgjcaaGreatDoor.fl
