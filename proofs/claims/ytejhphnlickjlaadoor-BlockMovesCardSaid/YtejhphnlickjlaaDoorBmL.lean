/-
  The law BlockMoves: what its calls answer, plainly; the law. Conditions: the calls' list stands in memory, its numbers and texts in their bounds; the table of keywords stands in memory.
-/
import Derived.Test.YtejhphnlickjlaaDoorBmE
import Derived.Test.YtejhphnlickjlaaDoorBmH
import Derived.Test.YtejhphnlickjlaaDoorBmI
import Derived.Test.YtejhphnlickjlaaDoorBlG
import Derived.Test.YtejhphnlickjlaaDoorBlF
set_option linter.unusedVariables false
set_option linter.unusedSimpArgs false
namespace Go.Proofs.YtejhphnlickjlaaDoor.bl
open Go.RowKit
open M ty
set_option linter.unusedVariables false
/-- three values' variables -/
structure Env3 (w W : World) (pk pi po qk qi qo rk ri ro : Int) : Prop where
  below : Below w.heap.size w W
  p : VarAt W w.heap.size pk pi po
  q : VarAt W (w.heap.size + 1) qk qi qo
  r : VarAt W (w.heap.size + 1 + 1) rk ri ro
theorem VarAt.lt {W : World} {V : Nat} {a x y : Int} (h : VarAt W V a x y) : V < W.heap.size := (Array.getElem?_eq_some_iff.1 h).1
theorem VarAt.after {W W' : World} {V : Nat} {a x y : Int} (h : VarAt W V a x y) (hb : Below W.heap.size W W') : VarAt W' V a x y := (hb.block _ h.lt).trans h
theorem VarAt.alloc {W : World} {V : Nat} {a x y : Int} (h : VarAt W V a x y) (o : Obj) : VarAt (W.alloc o) V a x y := h.after ((Below.refl _ _).alloc (Nat.le_refl _) _)
section
variable {w W W' : World} {pk pi po qk qi qo rk ri ro : Int}
theorem Env3.after (h : Env3 w W pk pi po qk qi qo rk ri ro) (hb : Below W.heap.size W W') : Env3 w W' pk pi po qk qi qo rk ri ro := ⟨h.below.trans (hb.mono h.below.size), h.p.after hb, h.q.after hb, h.r.after hb⟩
theorem Env3.alloc (h : Env3 w W pk pi po qk qi qo rk ri ro) (o : Obj) : Env3 w (W.alloc o) pk pi po qk qi qo rk ri ro := h.after ((Below.refl _ _).alloc (Nat.le_refl _) _)
theorem Env3.new (w : World) (pk pi po qk qi qo rk ri ro : Int) : Env3 w (((w.alloc (.cells #[.int .i64 pk, .int .i64 pi, .int .i64 po] 24)).alloc (.cells #[.int .i64 qk, .int .i64 qi, .int .i64 qo] 24)).alloc (.cells #[.int .i64 rk, .int .i64 ri, .int .i64 ro] 24)) pk pi po qk qi qo rk ri ro := by
  have e1 := heap_alloc_new w (.cells #[.int .i64 pk, .int .i64 pi, .int .i64 po] 24)
  have e2 := heap_alloc_new (w.alloc (.cells #[.int .i64 pk, .int .i64 pi, .int .i64 po] 24)) (.cells #[.int .i64 qk, .int .i64 qi, .int .i64 qo] 24)
  have e3 := heap_alloc_new ((w.alloc (.cells #[.int .i64 pk, .int .i64 pi, .int .i64 po] 24)).alloc (.cells #[.int .i64 qk, .int .i64 qi, .int .i64 qo] 24)) (.cells #[.int .i64 rk, .int .i64 ri, .int .i64 ro] 24)
  simp only [World.size_alloc] at e2 e3
  refine ⟨(((Below.refl _ _).alloc (Nat.le_refl _) _).alloc (by simp) _).alloc (by simp; omega) _, ?_, ?_, e3⟩
  · exact (VarAt.alloc (VarAt.alloc (W := w.alloc _) e1 _) _)
  · exact VarAt.alloc (W := (w.alloc _).alloc _) e2 _
end
/-- .. and the store -/
structure LawE (w W : World) (B g N : Nat) (st : St) (L : Lay) (pk pi po qk qi qo rk ri ro : Int) : Prop where
  e : Env3 w W pk pi po qk qi qo rk ri ro
  sto : Sto W B g N st L
section
variable {w W W' : World} {B g N : Nat} {st : St} {L : Lay} {pk pi po qk qi qo rk ri ro : Int}
theorem LawE.after (h : LawE w W B g N st L pk pi po qk qi qo rk ri ro) (hb : Below W.heap.size W W') : LawE w W' B g N st L pk pi po qk qi qo rk ri ro := ⟨h.e.after hb, h.sto.below hb⟩
theorem LawE.alloc (h : LawE w W B g N st L pk pi po qk qi qo rk ri ro) (o : Obj) : LawE w (W.alloc o) B g N st L pk pi po qk qi qo rk ri ro := h.after ((Below.refl _ _).alloc (Nat.le_refl _) _)
end
def AtSto (B g N : Nat) (st : St) (L : Lay) (f : FuncId) (args : Array Value) (v : Value) : Prop := ∀ W, Sto W B g N st L → Calls Tryd.prog f args W fun e w' => e = .returned v ∧ Below W.heap.size W w'
def AtEnv (w : World) (pk pi po qk qi qo rk ri ro : Int) (f : FuncId) (args : Array Value) (v : Value) : Prop := ∀ W, Env3 w W pk pi po qk qi qo rk ri ro → Calls Tryd.prog f args W fun e w' => e = .returned v ∧ Below W.heap.size W w'
end Go.Proofs.YtejhphnlickjlaaDoor.bl
namespace Go.Proofs.YtejhphnlickjlaaDoor.bl
open Go.RowKit
open M ty
set_option linter.unusedVariables false
/-- what Same tells of the three -/
def Suf (B g N : Nat) (st : St) (L : Lay) (pk pi po qk qi qo rk ri ro : Int) : Prop := ∃ (a c d : Bool) (e f e2 e3 : Int), AtSto B g N st L 31 #[.pointer (some ⟨g, 0, none⟩), .agg #[.int .i64 pk, .int .i64 pi, .int .i64 po], .agg #[.int .i64 qk, .int .i64 qi, .int .i64 qo]] (.tuple #[.bool a, .int .i64 e]) ∧ AtSto B g N st L 31 #[.pointer (some ⟨g, 0, none⟩), .agg #[.int .i64 qk, .int .i64 qi, .int .i64 qo], .agg #[.int .i64 pk, .int .i64 pi, .int .i64 po]] (.tuple #[.bool a, .int .i64 f]) ∧ AtSto B g N st L 31 #[.pointer (some ⟨g, 0, none⟩), .agg #[.int .i64 qk, .int .i64 qi, .int .i64 qo], .agg #[.int .i64 rk, .int .i64 ri, .int .i64 ro]] (.tuple #[.bool c, .int .i64 e2]) ∧ AtSto B g N st L 31 #[.pointer (some ⟨g, 0, none⟩), .agg #[.int .i64 pk, .int .i64 pi, .int .i64 po], .agg #[.int .i64 rk, .int .i64 ri, .int .i64 ro]] (.tuple #[.bool d, .int .i64 e3]) ∧
  ((e == 0) = false ∧ (f == 0) = false ∨ e = 0 ∧ f = 0 ∧ ((e2 == 0) = false ∨ e2 = 0 ∧ ((e3 == 0) = false ∨ e3 = 0 ∧ (a = false ∨ a = true ∧ (c = false ∨ c = true ∧ d = true)))))
/-- what Add, Apart and Below tell of the first -/
def Pre (B g N : Nat) (st : St) (L : Lay) (pk pi po n : Int) : Prop := (∃ E, AtSto B g N st L 28 #[.pointer (some ⟨g, 0, none⟩), .agg #[.int .i64 pk, .int .i64 pi, .int .i64 po], .int .i64 n] (.tuple #[.agg #[.int .i64 0, .int .i64 0, .int .i64 0], .int .i64 E]) ∧ (E == 0) = false) ∨
  ∃ po2 n', AtSto B g N st L 28 #[.pointer (some ⟨g, 0, none⟩), .agg #[.int .i64 pk, .int .i64 pi, .int .i64 po], .int .i64 n] (.tuple #[.agg #[.int .i64 pk, .int .i64 pi, .int .i64 po2], .int .i64 0]) ∧ AtSto B g N st L 28 #[.pointer (some ⟨g, 0, none⟩), .agg #[.int .i64 pk, .int .i64 pi, .int .i64 po2], .int .i64 n'] (.tuple #[.agg #[.int .i64 pk, .int .i64 pi, .int .i64 po], .int .i64 0]) ∧ wrap64 (-n) = n' ∧
    ((pk == 2) = false ∨ (pk == 2) = true ∧ AtSto B g N st L 29 #[.pointer (some ⟨g, 0, none⟩), .agg #[.int .i64 pk, .int .i64 pi, .int .i64 po2], .agg #[.int .i64 pk, .int .i64 pi, .int .i64 po]] (.tuple #[.int .i64 n, .int .i64 0]) ∧ AtSto B g N st L 30 #[.pointer (some ⟨g, 0, none⟩), .agg #[.int .i64 pk, .int .i64 pi, .int .i64 po], .agg #[.int .i64 pk, .int .i64 pi, .int .i64 po2]] (.tuple #[.bool (decide (0 < n)), .int .i64 0]))
/-- made, and all that is then told -/
def MadeM (w : World) (pk pi po qk qi qo rk ri ro n : Int) (A : Option Addr) (m cap : Nat) : Prop := ∀ W, Env3 w W pk pi po qk qi qo rk ri ro → Calls Tryd.prog 21 #[.slice A m cap] W fun e w' => ∃ B g N st L, e = .returned (.pointer (some ⟨g, 0, none⟩)) ∧ Below W.heap.size W w' ∧ Sto w' B g N st L ∧ Pre B g N st L pk pi po n ∧ Suf B g N st L pk pi po qk qi qo rk ri ro
section
variable {w : World} {pk pi po qk qi qo rk ri ro n : Int} {A : Option Addr} {m cap : Nat}
set_option maxRecDepth 20000 in
set_option maxHeartbeats 40000000 in
theorem moves_walk (HW : Hid (AtEnv w pk pi po qk qi qo rk ri ro 20 #[] (.bool true))) (HM : Hid (MadeM w pk pi po qk qi qo rk ri ro n A m cap)) :
    Calls Tryd.prog 6 #[.slice A m cap, .agg #[.int .i64 pk, .int .i64 pi, .int .i64 po], .int .i64 n, .agg #[.int .i64 qk, .int .i64 qi, .int .i64 qo], .agg #[.int .i64 rk, .int .i64 ri, .int .i64 ro]] w fun e w' => e = .returned (.bool true) ∧ Below w.heap.size w w' := by
  have hgv := grdV
  have hev := eqV
  go_enter Tryd.func6, Tryd.ntmps6
  go_wp2_with (first
    | (go_at_call 20; refine (HW.out _ (Env3.new w pk pi po qk qi qo rk ri ro)).mono ?_; rintro e w0 ⟨rfl, hb⟩; have H := Lib.hid ((Env3.new w pk pi po qk qi qo rk ri ro).after hb); clear hb)
    | (go_at_call 21; refine (HM.out _ H.out).mono ?_; rintro e w0 ⟨B, g, N, st, L, rfl, hb, hs, hpre, hsuf⟩; have h : LawE w w0 B g N st L pk pi po qk qi qo rk ri ro := ⟨H.out.after hb, hs⟩; obtain ⟨c0, c1, c2⟩ := h.e.p.cells; obtain ⟨c3, c4, c5⟩ := h.e.q.cells; obtain ⟨c6, c7, c8⟩ := h.e.r.cells; have H := Lib.hid h; have HPre := Lib.hid hpre; have HSuf := Lib.hid hsuf; clear h hb hs hpre hsuf))
  obtain ⟨E, hadd, hE⟩ | ⟨po2, n', hadd, hadd2, hw, hk | ⟨hk, hap, hbe⟩⟩ := HPre.out
  · have HAdd := Lib.hid hadd
    clear hadd
    go_wp2_with (go_at_call 28; refine (HAdd.out _ H.out.sto).mono ?_; rintro e w1 ⟨rfl, hb⟩; have h := (H.out.after hb).alloc (.cells #[.int .i64 0, .int .i64 0, .int .i64 0] 24); clear c0 c1 c2 c3 c4 c5 c6 c7 c8; obtain ⟨c0, c1, c2⟩ := h.e.p.cells; obtain ⟨c3, c4, c5⟩ := h.e.q.cells; obtain ⟨c6, c7, c8⟩ := h.e.r.cells; have H := Lib.hid h; clear h hb HAdd)
    obtain ⟨a, c, d, e, f, e2, e3, hsa, hsb, hsc, hsd, ⟨h1, h2⟩ | ⟨rfl, rfl, h1 | ⟨rfl, h1 | ⟨rfl, rfl | ⟨rfl, rfl | ⟨rfl, rfl⟩⟩⟩⟩⟩⟩ := HSuf.out
    all_goals
      have HSa := Lib.hid hsa
      have HSb := Lib.hid hsb
      have HSc := Lib.hid hsc
      have HSd := Lib.hid hsd
      clear hsa hsb hsc hsd
      go_wp2_with (go_at_call 31; first | (refine (HSa.out _ H.out.sto).mono ?_; rintro e w1 ⟨rfl, hb⟩; have h := H.out.after hb; clear c0 c1 c2 c3 c4 c5 c6 c7 c8; obtain ⟨c0, c1, c2⟩ := h.e.p.cells; obtain ⟨c3, c4, c5⟩ := h.e.q.cells; obtain ⟨c6, c7, c8⟩ := h.e.r.cells; have H := Lib.hid h; clear h hb HSa) | (refine (HSb.out _ H.out.sto).mono ?_; rintro e w1 ⟨rfl, hb⟩; have h := H.out.after hb; clear c0 c1 c2 c3 c4 c5 c6 c7 c8; obtain ⟨c0, c1, c2⟩ := h.e.p.cells; obtain ⟨c3, c4, c5⟩ := h.e.q.cells; obtain ⟨c6, c7, c8⟩ := h.e.r.cells; have H := Lib.hid h; clear h hb HSb) | (refine (HSc.out _ H.out.sto).mono ?_; rintro e w1 ⟨rfl, hb⟩; have h := H.out.after hb; clear c0 c1 c2 c3 c4 c5 c6 c7 c8; obtain ⟨c0, c1, c2⟩ := h.e.p.cells; obtain ⟨c3, c4, c5⟩ := h.e.q.cells; obtain ⟨c6, c7, c8⟩ := h.e.r.cells; have H := Lib.hid h; clear h hb HSc) | (refine (HSd.out _ H.out.sto).mono ?_; rintro e w1 ⟨rfl, hb⟩; have h := H.out.after hb; clear c0 c1 c2 c3 c4 c5 c6 c7 c8; obtain ⟨c0, c1, c2⟩ := h.e.p.cells; obtain ⟨c3, c4, c5⟩ := h.e.q.cells; obtain ⟨c6, c7, c8⟩ := h.e.r.cells; have H := Lib.hid h; clear h hb HSd))
      go_ret
      exact ⟨rfl, H.out.e.below⟩
  · have HAdd := Lib.hid hadd
    have HAdd2 := Lib.hid hadd2
    clear hadd hadd2
    go_wp2_with (go_at_call 28; first | (refine (HAdd.out _ H.out.sto).mono ?_; rintro e w1 ⟨rfl, hb⟩; have h := (H.out.after hb).alloc (.cells #[.int .i64 pk, .int .i64 pi, .int .i64 po2] 24); have hx : VarAt (w1.alloc (.cells #[.int .i64 pk, .int .i64 pi, .int .i64 po2] 24)) w1.heap.size pk pi po2 := heap_alloc_new _ _; clear c0 c1 c2 c3 c4 c5 c6 c7 c8; obtain ⟨c0, c1, c2⟩ := h.e.p.cells; obtain ⟨c3, c4, c5⟩ := h.e.q.cells; obtain ⟨c6, c7, c8⟩ := h.e.r.cells; obtain ⟨x0, x1, x2⟩ := hx.cells; have HX := Lib.hid hx; have H := Lib.hid h; clear h hb HAdd hx) | (refine (HAdd2.out _ H.out.sto).mono ?_; rintro e w2 ⟨rfl, hb⟩; have h := (H.out.after hb).alloc (.cells #[.int .i64 pk, .int .i64 pi, .int .i64 po] 24); have hy : VarAt (w2.alloc (.cells #[.int .i64 pk, .int .i64 pi, .int .i64 po] 24)) w2.heap.size pk pi po := heap_alloc_new _ _; clear c0 c1 c2 c3 c4 c5 c6 c7 c8; obtain ⟨c0, c1, c2⟩ := h.e.p.cells; obtain ⟨c3, c4, c5⟩ := h.e.q.cells; obtain ⟨c6, c7, c8⟩ := h.e.r.cells; have hx2 := (HX.out.after hb).alloc (.cells #[.int .i64 pk, .int .i64 pi, .int .i64 po] 24); clear x0 x1 x2; obtain ⟨x0, x1, x2⟩ := hx2.cells; have HX := Lib.hid hx2; clear hx2; obtain ⟨y0, y1, y2⟩ := hy.cells; have H := Lib.hid h; clear h hb HAdd2 hy))
    obtain ⟨a, c, d, e, f, e2, e3, hsa, hsb, hsc, hsd, ⟨h1, h2⟩ | ⟨rfl, rfl, h1 | ⟨rfl, h1 | ⟨rfl, rfl | ⟨rfl, rfl | ⟨rfl, rfl⟩⟩⟩⟩⟩⟩ := HSuf.out
    all_goals
      have HSa := Lib.hid hsa
      have HSb := Lib.hid hsb
      have HSc := Lib.hid hsc
      have HSd := Lib.hid hsd
      clear hsa hsb hsc hsd
      go_wp2_with (go_at_call 31; first | (refine (HSa.out _ H.out.sto).mono ?_; rintro e w1 ⟨rfl, hb⟩; have h := H.out.after hb; clear c0 c1 c2 c3 c4 c5 c6 c7 c8; obtain ⟨c0, c1, c2⟩ := h.e.p.cells; obtain ⟨c3, c4, c5⟩ := h.e.q.cells; obtain ⟨c6, c7, c8⟩ := h.e.r.cells; have H := Lib.hid h; clear h hb HSa) | (refine (HSb.out _ H.out.sto).mono ?_; rintro e w1 ⟨rfl, hb⟩; have h := H.out.after hb; clear c0 c1 c2 c3 c4 c5 c6 c7 c8; obtain ⟨c0, c1, c2⟩ := h.e.p.cells; obtain ⟨c3, c4, c5⟩ := h.e.q.cells; obtain ⟨c6, c7, c8⟩ := h.e.r.cells; have H := Lib.hid h; clear h hb HSb) | (refine (HSc.out _ H.out.sto).mono ?_; rintro e w1 ⟨rfl, hb⟩; have h := H.out.after hb; clear c0 c1 c2 c3 c4 c5 c6 c7 c8; obtain ⟨c0, c1, c2⟩ := h.e.p.cells; obtain ⟨c3, c4, c5⟩ := h.e.q.cells; obtain ⟨c6, c7, c8⟩ := h.e.r.cells; have H := Lib.hid h; clear h hb HSc) | (refine (HSd.out _ H.out.sto).mono ?_; rintro e w1 ⟨rfl, hb⟩; have h := H.out.after hb; clear c0 c1 c2 c3 c4 c5 c6 c7 c8; obtain ⟨c0, c1, c2⟩ := h.e.p.cells; obtain ⟨c3, c4, c5⟩ := h.e.q.cells; obtain ⟨c6, c7, c8⟩ := h.e.r.cells; have H := Lib.hid h; clear h hb HSd))
      go_ret
      exact ⟨rfl, H.out.e.below⟩
  · have HAdd := Lib.hid hadd
    have HAdd2 := Lib.hid hadd2
    have HAp := Lib.hid hap
    have HBe := Lib.hid hbe
    clear hadd hadd2 hap hbe
    go_wp2_with (first
      | (go_at_call 28; first | (refine (HAdd.out _ H.out.sto).mono ?_; rintro e w1 ⟨rfl, hb⟩; have h := (H.out.after hb).alloc (.cells #[.int .i64 pk, .int .i64 pi, .int .i64 po2] 24); have hx : VarAt (w1.alloc (.cells #[.int .i64 pk, .int .i64 pi, .int .i64 po2] 24)) w1.heap.size pk pi po2 := heap_alloc_new _ _; clear c0 c1 c2 c3 c4 c5 c6 c7 c8; obtain ⟨c0, c1, c2⟩ := h.e.p.cells; obtain ⟨c3, c4, c5⟩ := h.e.q.cells; obtain ⟨c6, c7, c8⟩ := h.e.r.cells; obtain ⟨x0, x1, x2⟩ := hx.cells; have HX := Lib.hid hx; have H := Lib.hid h; clear h hb HAdd hx) | (refine (HAdd2.out _ H.out.sto).mono ?_; rintro e w2 ⟨rfl, hb⟩; have h := (H.out.after hb).alloc (.cells #[.int .i64 pk, .int .i64 pi, .int .i64 po] 24); have hy : VarAt (w2.alloc (.cells #[.int .i64 pk, .int .i64 pi, .int .i64 po] 24)) w2.heap.size pk pi po := heap_alloc_new _ _; clear c0 c1 c2 c3 c4 c5 c6 c7 c8; obtain ⟨c0, c1, c2⟩ := h.e.p.cells; obtain ⟨c3, c4, c5⟩ := h.e.q.cells; obtain ⟨c6, c7, c8⟩ := h.e.r.cells; have hx2 := (HX.out.after hb).alloc (.cells #[.int .i64 pk, .int .i64 pi, .int .i64 po] 24); clear x0 x1 x2; obtain ⟨x0, x1, x2⟩ := hx2.cells; have HX := Lib.hid hx2; clear hx2; obtain ⟨y0, y1, y2⟩ := hy.cells; have H := Lib.hid h; clear h hb HAdd2 hy))
      | (go_at_call 29; refine (HAp.out _ H.out.sto).mono ?_; rintro e w3 ⟨rfl, hb⟩; have h := H.out.after hb; have hx2 := HX.out.after hb; clear x0 x1 x2 y0 y1 y2; obtain ⟨x0, x1, x2⟩ := hx2.cells; clear c0 c1 c2 c3 c4 c5 c6 c7 c8; obtain ⟨c0, c1, c2⟩ := h.e.p.cells; obtain ⟨c3, c4, c5⟩ := h.e.q.cells; obtain ⟨c6, c7, c8⟩ := h.e.r.cells; have H := Lib.hid h; clear h hb hx2)
      | (go_at_call 30; refine (HBe.out _ H.out.sto).mono ?_; rintro e w4 ⟨rfl, hb⟩; have h := H.out.after hb; clear x0 x1 x2; clear c0 c1 c2 c3 c4 c5 c6 c7 c8; obtain ⟨c0, c1, c2⟩ := h.e.p.cells; obtain ⟨c3, c4, c5⟩ := h.e.q.cells; obtain ⟨c6, c7, c8⟩ := h.e.r.cells; have H := Lib.hid h; clear h hb))
    obtain ⟨a, c, d, e, f, e2, e3, hsa, hsb, hsc, hsd, ⟨h1, h2⟩ | ⟨rfl, rfl, h1 | ⟨rfl, h1 | ⟨rfl, rfl | ⟨rfl, rfl | ⟨rfl, rfl⟩⟩⟩⟩⟩⟩ := HSuf.out
    all_goals
      have HSa := Lib.hid hsa
      have HSb := Lib.hid hsb
      have HSc := Lib.hid hsc
      have HSd := Lib.hid hsd
      clear hsa hsb hsc hsd
      go_wp2_with (go_at_call 31; first | (refine (HSa.out _ H.out.sto).mono ?_; rintro e w1 ⟨rfl, hb⟩; have h := H.out.after hb; clear c0 c1 c2 c3 c4 c5 c6 c7 c8; obtain ⟨c0, c1, c2⟩ := h.e.p.cells; obtain ⟨c3, c4, c5⟩ := h.e.q.cells; obtain ⟨c6, c7, c8⟩ := h.e.r.cells; have H := Lib.hid h; clear h hb HSa) | (refine (HSb.out _ H.out.sto).mono ?_; rintro e w1 ⟨rfl, hb⟩; have h := H.out.after hb; clear c0 c1 c2 c3 c4 c5 c6 c7 c8; obtain ⟨c0, c1, c2⟩ := h.e.p.cells; obtain ⟨c3, c4, c5⟩ := h.e.q.cells; obtain ⟨c6, c7, c8⟩ := h.e.r.cells; have H := Lib.hid h; clear h hb HSb) | (refine (HSc.out _ H.out.sto).mono ?_; rintro e w1 ⟨rfl, hb⟩; have h := H.out.after hb; clear c0 c1 c2 c3 c4 c5 c6 c7 c8; obtain ⟨c0, c1, c2⟩ := h.e.p.cells; obtain ⟨c3, c4, c5⟩ := h.e.q.cells; obtain ⟨c6, c7, c8⟩ := h.e.r.cells; have H := Lib.hid h; clear h hb HSc) | (refine (HSd.out _ H.out.sto).mono ?_; rintro e w1 ⟨rfl, hb⟩; have h := H.out.after hb; clear c0 c1 c2 c3 c4 c5 c6 c7 c8; obtain ⟨c0, c1, c2⟩ := h.e.p.cells; obtain ⟨c3, c4, c5⟩ := h.e.q.cells; obtain ⟨c6, c7, c8⟩ := h.e.r.cells; have H := Lib.hid h; clear h hb HSd))
      go_ret
      exact ⟨rfl, H.out.e.below⟩
end
end Go.Proofs.YtejhphnlickjlaaDoor.bl
namespace Go.Proofs.YtejhphnlickjlaaDoor.bl
open Go.RowKit
open M ty
set_option linter.unusedVariables false
theorem same_sym (st : St) (k i o k2 i2 o2 : Int) : (sameR st k2 i2 o2 k i o).1 = (sameR st k i o k2 i2 o2).1 ∧ ((sameR st k2 i2 o2 k i o).2 = 0 ↔ (sameR st k i o k2 i2 o2).2 = 0) := by
  unfold sameR
  by_cases f1 : fixedB k = true <;> by_cases f2 : fixedB k2 = true
  · simp only [f1, f2, and_self, if_true]
    refine ⟨?_, by simp⟩
    by_cases hk : k = k2
    · subst hk
      by_cases hi : i = i2
      · subst hi; rfl
      · have h1 : (i == i2) = false := by simpa using hi
        have h2 : (i2 == i) = false := by simpa using fun e => hi e.symm
        simp [h1, h2]
    · have h1 : (k == k2) = false := by simpa using hk
      have h2 : (k2 == k) = false := by simpa using fun e => hk e.symm
      simp [h1, h2]
  · have f2' : fixedB k2 = false := by simpa using f2
    by_cases e2 : reachE st k2 i2 o2 0 = 0 <;> simp [f1, f2', e2]
  · have f1' : fixedB k = false := by simpa using f1
    by_cases e1 : reachE st k i o 0 = 0 <;> simp [f1', f2, e1]
  · have f1' : fixedB k = false := by simpa using f1
    have f2' : fixedB k2 = false := by simpa using f2
    by_cases e1 : reachE st k i o 0 = 0 <;> by_cases e2 : reachE st k2 i2 o2 0 = 0
    · simp only [f1', f2', e1, e2]
      by_cases hi : i = i2
      · subst hi
        simp
        by_cases ho : o = o2
        · simp [ho]
        · have h1 : (o == o2) = false := by simpa using ho
          have h2 : (o2 == o) = false := by simpa using fun e => ho e.symm
          simp [h1, h2]
      · have hi2 : ¬ i2 = i := fun e => hi e.symm
        by_cases c1 : (kindOf st i = 1 ∧ kindOf st i2 = 1) ∨ o = lenOf st i ∨ o2 = lenOf st i2
        · have c2 : (kindOf st i2 = 1 ∧ kindOf st i = 1) ∨ o2 = lenOf st i2 ∨ o = lenOf st i := c1.elim (fun h => .inl ⟨h.2, h.1⟩) (fun h => .inr (h.elim .inr .inl))
          simp [hi, hi2, c1, c2]
        · have c2 : ¬ ((kindOf st i2 = 1 ∧ kindOf st i = 1) ∨ o2 = lenOf st i2 ∨ o = lenOf st i) := fun h => c1 (h.elim (fun h => .inl ⟨h.2, h.1⟩) (fun h => .inr (h.elim .inr .inl)))
          simp [hi, hi2, c1, c2]
    all_goals simp [f1', f2', e1, e2]
theorem same_true {st : St} {k i o k2 i2 o2 : Int} (h : (sameR st k i o k2 i2 o2).1 = true) : (fixedB k = true ∧ fixedB k2 = true ∧ k = k2 ∧ (k = 3 ∨ i = i2)) ∨ (fixedB k = false ∧ fixedB k2 = false ∧ reachE st k i o 0 = 0 ∧ reachE st k2 i2 o2 0 = 0 ∧ i = i2 ∧ o = o2) := by
  unfold sameR at h
  by_cases f1 : fixedB k = true <;> by_cases f2 : fixedB k2 = true
  · simp only [f1, f2, and_self, if_true, Bool.and_eq_true, Bool.or_eq_true, beq_iff_eq] at h
    exact .inl ⟨f1, f2, h.1, h.2⟩
  · have f2' : fixedB k2 = false := by simpa using f2
    by_cases e2 : reachE st k2 i2 o2 0 = 0 <;> simp [f1, f2', e2] at h
  · have f1' : fixedB k = false := by simpa using f1
    by_cases e1 : reachE st k i o 0 = 0 <;> simp [f1', f2, e1] at h
  · have f1' : fixedB k = false := by simpa using f1
    have f2' : fixedB k2 = false := by simpa using f2
    by_cases e1 : reachE st k i o 0 = 0 <;> by_cases e2 : reachE st k2 i2 o2 0 = 0
    · by_cases hi : i = i2
      · subst hi
        simp [f1', f2', e1, e2] at h
        exact .inr ⟨f1', f2', e1, e2, rfl, h⟩
      · by_cases c1 : (kindOf st i = 1 ∧ kindOf st i2 = 1) ∨ o = lenOf st i ∨ o2 = lenOf st i2 <;> simp [f1', f2', e1, e2, hi, c1] at h
    all_goals simp [f1', f2', e1, e2] at h
theorem same_trans {st : St} {k i o k2 i2 o2 k3 i3 o3 : Int} (h1 : (sameR st k i o k2 i2 o2).1 = true) (h2 : (sameR st k2 i2 o2 k3 i3 o3).1 = true) : (sameR st k i o k3 i3 o3).1 = true := by
  rcases same_true h1 with ⟨f1, f2, hk, hi⟩ | ⟨f1, f2, r1, r2, hi, ho⟩
  · rcases same_true h2 with ⟨_, f3, hk2, hi2⟩ | ⟨f3, _⟩
    · subst hk
      subst hk2
      unfold sameR
      rw [if_pos ⟨f1, f3⟩]
      simp
      rcases hi with h | h
      · exact .inl h
      · rcases hi2 with h' | h'
        · exact .inl h'
        · exact .inr (h.trans h')
    · rw [f2] at f3; cases f3
  · rcases same_true h2 with ⟨f3, _⟩ | ⟨_, f3, _, r3, hi2, ho2⟩
    · rw [f2] at f3; cases f3
    · unfold sameR
      subst hi
      subst ho
      subst hi2
      subst ho2
      simp [f1, f3, r1, r3]
section
variable {B g N : Nat} {st : St} {L : Lay}
theorem suf_of (pk pi po qk qi qo rk ri ro : Int) (hp : In64 pi) (hq : In64 qi) (hr : In64 ri) : Suf B g N st L pk pi po qk qi qo rk ri ro := by
  have S := fun (k i o k2 i2 o2 : Int) (hi : In64 i) (hj : In64 i2) => (fun W hW => same_any hW k i o k2 i2 o2 hi.1 hi.2 hj.1 hj.2 : AtSto B g N st L 31 #[.pointer (some ⟨g, 0, none⟩), .agg #[.int .i64 k, .int .i64 i, .int .i64 o], .agg #[.int .i64 k2, .int .i64 i2, .int .i64 o2]] (.tuple #[.bool (sameR st k i o k2 i2 o2).1, .int .i64 (sameR st k i o k2 i2 o2).2]))
  have S2 := S qk qi qo pk pi po hq hp
  obtain ⟨y1, y2⟩ := same_sym st pk pi po qk qi qo
  rw [y1] at S2
  refine ⟨_, _, _, _, _, _, _, S pk pi po qk qi qo hp hq, S2, S qk qi qo rk ri ro hq hr, S pk pi po rk ri ro hp hr, ?_⟩
  have ht := fun h1 h2 => same_trans (st := st) (k := pk) (i := pi) (o := po) (k2 := qk) (i2 := qi) (o2 := qo) (k3 := rk) (i3 := ri) (o3 := ro) h1 h2
  generalize (sameR st pk pi po qk qi qo).1 = a at *
  generalize (sameR st qk qi qo rk ri ro).1 = c at *
  generalize (sameR st pk pi po rk ri ro).1 = d at *
  generalize (sameR st pk pi po qk qi qo).2 = e at *
  generalize (sameR st qk qi qo pk pi po).2 = f at *
  generalize (sameR st qk qi qo rk ri ro).2 = e2 at *
  generalize (sameR st pk pi po rk ri ro).2 = e3 at *
  by_cases he : e = 0
  · refine .inr ⟨he, y2.2 he, ?_⟩
    by_cases he2 : e2 = 0
    · refine .inr ⟨he2, ?_⟩
      by_cases he3 : e3 = 0
      · refine .inr ⟨he3, ?_⟩
        cases a
        · exact .inl rfl
        · cases c
          · exact .inr ⟨rfl, .inl rfl⟩
          · exact .inr ⟨rfl, .inr ⟨rfl, ht rfl rfl⟩⟩
      · exact .inl (by simpa using he3)
    · exact .inl (by simpa using he2)
  · exact .inl ⟨by simpa using he, by simpa using fun h => he (y2.1 h)⟩
theorem pre_of (pk pi po n : Int) (hp : In64 pi) (hn : In64 n) (hm : ∀ b ∈ st.bl, b.bs.length ≤ 131072) : Pre B g N st L pk pi po n := by
  have A := fun (k i o n : Int) (hi : In64 i) (hn : In64 n) => (fun W hW => add_any hW k i o n hi.1 hi.2 hn.1 hn.2 : AtSto B g N st L 28 #[.pointer (some ⟨g, 0, none⟩), .agg #[.int .i64 k, .int .i64 i, .int .i64 o], .int .i64 n] (addR st k i o n))
  have A1 := A pk pi po n hp hn
  by_cases hE : addE st pk pi po n = 0
  · right
    unfold addR at A1
    rw [if_pos hE] at A1
    by_cases hf : fixedB pk = true ∧ n = 0
    · obtain ⟨hf1, rfl⟩ := hf
      refine ⟨po + 0, 0, A1, ?_, by simp [wrap64], .inl ?_⟩
      · rw [Int.add_zero]
        rw [Int.add_zero] at A1
        exact A1
      · by_cases h2 : pk = 2
        · subst h2; cases hf1
        · simpa using h2
    · have hr : reachE st pk pi po 0 = 0 := by
        unfold addE at hE
        rw [if_neg hf] at hE
        by_cases h : reachE st pk pi po 0 = 0
        · exact h
        · rw [if_pos h] at hE; exact absurd hE h
      obtain ⟨rfl, h1, h2, o0, b, hb, hd, h3, h4⟩ := reach_zero hr
      have hbd : -po ≤ n ∧ n ≤ b.bs.length - po := by
        unfold addE at hE
        rw [if_neg hf, if_neg (fun h => h hr), hb] at hE
        simp only [Option.map_some, Option.getD_some] at hE
        split at hE
        · exact absurd hE (by decide)
        · omega
      have hlen := hm b (List.mem_of_getElem? hb)
      have hr2 : reachE st 2 pi (po + n) 0 = 0 := by
        unfold reachE
        rw [if_neg (by omega), hb]
        simp [hd]
        omega
      have hE2 : addE st 2 pi (po + n) (-n) = 0 := by
        unfold addE
        rw [if_neg (fun h => by cases h.1), if_neg (fun h => h hr2), hb]
        simp only [Option.map_some, Option.getD_some]
        rw [if_neg (by omega)]
      have A2 := A 2 pi (po + n) (-n) hp ⟨by omega, by omega⟩
      unfold addR at A2
      rw [if_pos hE2, show po + n + -n = po by omega] at A2
      have hB : bothE st 2 pi (po + n) 2 pi po = 0 := by unfold bothE; simp [hr, hr2]
      have hB2 : bothE st 2 pi po 2 pi (po + n) = 0 := by unfold bothE; simp [hr, hr2]
      refine ⟨po + n, -n, A1, A2, IntWalk.wrap64_in _ (by omega), .inr ⟨rfl, fun W hW => ?_, fun W hW => ?_⟩⟩
      · have := apart_any hW 2 pi (po + n) 2 pi po hp.1 hp.2 hp.1 hp.2
        rw [hB, if_pos rfl, show po + n - po = n by omega] at this
        exact this
      · have := below_any hW 2 pi po 2 pi (po + n) hp.1 hp.2 hp.1 hp.2
        rw [hB2, show decide (po < po + n) = decide (0 < n) by by_cases h : 0 < n <;> simp [h] <;> omega] at this
        exact this
  · left
    unfold addR at A1
    rw [if_neg hE] at A1
    exact ⟨_, A1, by simpa using hE⟩
end
theorem made_any (A : Option Addr) (n c : Nat) (l : List Ac) (w : World) (hK : KeysIn w) (hA : Rd w w.heap.size A (acs l)) (hl : l.length = n) (hO : ∀ x ∈ l, AcOk x) (hn : n < 1099511627776) :
    Calls Tryd.prog 21 #[.slice A n c] w fun e w' => e = .returned (.pointer (some ⟨w.heap.size + 1, 0, none⟩)) ∧ SomeW w w' w.heap.size (w.heap.size + 1) n := by
  have h0 : 0 < w.heap.size := by
    obtain ⟨ad, e, hlt, _⟩ := hK (by rw [ne_eq, ← List.length_eq_zero_iff]; unfold strs; rw [List.length_map]; decide)
    omega
  exact made_walk (Lib.hid hA) (Lib.hid hl) (Lib.hid hO) hn (Lib.hid ((new_any w).mono fun e w' ⟨a, b, c⟩ => ⟨a, 0, _, _, ⟨b, hK.below c, c, h0⟩, Nat.le_refl _, Nat.le_refl _⟩))
theorem moves_law (A : Option Addr) (m c : Nat) (l : List Ac) (pk pi po n qk qi qo rk ri ro : Int) (w : World) (hK : KeysIn w) (hA : Rd w w.heap.size A (acs l)) (hl : l.length = m) (hO : ∀ x ∈ l, AcOk x) (hm : m < 1099511627776)
    (hp : In64 pi) (hn : In64 n) (hq : In64 qi) (hr : In64 ri) :
    Calls Tryd.prog 6 #[.slice A m c, .agg #[.int .i64 pk, .int .i64 pi, .int .i64 po], .int .i64 n, .agg #[.int .i64 qk, .int .i64 qi, .int .i64 qo], .agg #[.int .i64 rk, .int .i64 ri, .int .i64 ro]] w fun e w' => e = .returned (.bool true) ∧ Below w.heap.size w w' := by
  refine moves_walk (Lib.hid fun W hW => works_any W (hK.below hW.below)) (Lib.hid fun W hW => ?_)
  refine (made_any A m c l W (hK.below hW.below) ((hA.below hW.below).more hW.below.size) hl hO hm).mono fun e w' ⟨h1, N, st, L, h2, h3, h4⟩ => ?_
  exact ⟨_, _, N, st, L, h1, h2.below, h2.sto, pre_of pk pi po n hp hn (fun b hb => by obtain ⟨j, hj, rfl⟩ := List.mem_iff_getElem.1 hb; exact (h2.sto.body j _ (List.getElem?_eq_getElem hj)).2.2.2.2), suf_of pk pi po qk qi qo rk ri ro hp hq hr⟩
end Go.Proofs.YtejhphnlickjlaaDoor.bl
