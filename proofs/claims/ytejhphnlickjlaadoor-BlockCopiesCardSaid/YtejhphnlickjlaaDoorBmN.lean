/-
  The walk of the law BlockCopies. Conditions: what its calls answer.
-/
import Derived.Test.YtejhphnlickjlaaDoorBmL
set_option linter.unusedVariables false
set_option linter.unusedSimpArgs false
namespace Go.Proofs.YtejhphnlickjlaaDoor.bl
open Go.RowKit
open M ty
set_option linter.unusedVariables false
/-- two values' variables, a store that lies behind them -/
structure LawF (w W : World) (B g N : Nat) (st : St) (L : Lay) (pk pi po qk qi qo : Int) : Prop where
  e : EnvQ w W pk pi po qk qi qo
  sto : Sto W B g N st L
  hB : w.heap.size + 1 < B
  keys : KeysIn W
/-- a value's variable beside a store -/
structure Beside (W : World) (g : Nat) (st : St) (L : Lay) (V : Nat) (a x y : Int) : Prop where
  var : VarAt W V a x y
  nm : ¬ Mine g L st.bl.length V
section
variable {w W W' : World} {B g N N' : Nat} {st st' : St} {L : Lay} {pk pi po qk qi qo a x y : Int} {V : Nat}
theorem LawF.after (h : LawF w W B g N st L pk pi po qk qi qo) (hb : Below W.heap.size W W') : LawF w W' B g N st L pk pi po qk qi qo := ⟨h.e.after hb, h.sto.below hb, h.hB, h.keys.below hb⟩
theorem LawF.alloc (h : LawF w W B g N st L pk pi po qk qi qo) (o : Obj) : LawF w (W.alloc o) B g N st L pk pi po qk qi qo := h.after ((Below.refl _ _).alloc (Nat.le_refl _) _)
theorem LawF.wrote (h : LawF w W B g N st L pk pi po qk qi qo) (hf : Fr W W' g L st.bl.length) (hs : Sto W' B g N' st' L) : LawF w W' B g N' st' L pk pi po qk qi qo := by
  have hb := hf.below h.sto
  have := h.hB
  exact ⟨⟨h.e.below.trans (hb.mono (by omega)), (hb.block _ (by omega)).trans h.e.p, (hb.block _ (by omega)).trans h.e.q⟩, hs, h.hB, keys_B h.keys hb (by omega)⟩
theorem Beside.after (h : Beside W g st L V a x y) (hb : Below W.heap.size W W') : Beside W' g st L V a x y := ⟨h.var.after hb, h.nm⟩
theorem Beside.alloc (h : Beside W g st L V a x y) (o : Obj) : Beside (W.alloc o) g st L V a x y := h.after ((Below.refl _ _).alloc (Nat.le_refl _) _)
theorem Beside.wrote (h : Beside W g st L V a x y) (hf : Fr W W' g L st.bl.length) (hl : st'.bl.length = st.bl.length) : Beside W' g st' L V a x y := ⟨(hf.block V h.var.lt h.nm).trans h.var, by rw [hl]; exact h.nm⟩
theorem Beside.new (hs : Sto W B g N st L) (a x y : Int) : Beside (W.alloc (.cells #[.int .i64 a, .int .i64 x, .int .i64 y] 24)) g st L W.heap.size a x y := ⟨heap_alloc_new W _, fun hm => by have := hs.mine_lt hm; omega⟩
end
/-- a method that reads -/
def AtK (B g N : Nat) (st : St) (L : Lay) (f : FuncId) (args : Array Value) (v : Value) : Prop := ∀ W, Sto W B g N st L → KeysIn W → Calls Tryd.prog f args W fun e w' => e = .returned v ∧ Below W.heap.size W w'
/-- a method that writes, and what stands behind it -/
def AtWr (B g N : Nat) (st : St) (L : Lay) (f : FuncId) (args : Array Value) (st' : St) : Prop := ∀ W, Sto W B g N st L → KeysIn W → Calls Tryd.prog f args W fun e w' => e = .returned (.int .i64 0) ∧ Sto w' B g (N + 1) st' L ∧ Fr W w' g L st.bl.length
/-- what a load of a pointer tells behind the copy -/
def CopA (B g N : Nat) (st : St) (L : Lay) (pk pi po n va vx vy f : Int) : Prop := (f == 0) = false ∨ f = 0 ∧ (¬ 4 ≤ n ∨ 4 ≤ n ∧ ∃ ua ux uy e, AtK B g N st L 22 #[.pointer (some ⟨g, 0, none⟩), .agg #[.int .i64 pk, .int .i64 pi, .int .i64 po], .string ⟨#[112, 118]⟩] (.tuple #[.agg #[.int .i64 ua, .int .i64 ux, .int .i64 uy], .int .i64 e]) ∧
  (¬ Int.tmod po 4 = 0 ∨ Int.tmod po 4 = 0 ∧ ua = va ∧ ux = vx ∧ uy = vy ∧ e = 0))
/-- what a context tells behind the copy -/
def CopB (B g N : Nat) (st : St) (L : Lay) (pk pi po n a a' c gg : Int) : Prop := (gg == 0) = false ∨ gg = 0 ∧ (¬ 64 ≤ n ∨ 64 ≤ n ∧ (¬ Int.tmod po 4 = 0 ∨ Int.tmod po 4 = 0 ∧ AtK B g N st L 23 #[.pointer (some ⟨g, 0, none⟩), .agg #[.int .i64 pk, .int .i64 pi, .int .i64 po]] (.tuple #[.int .i64 c, .int .i64 0]) ∧ wrap64 (po + a') = po + a' ∧
  ∃ st' d, st'.bl.length = st.bl.length ∧ AtWr B g N st L 25 #[.pointer (some ⟨g, 0, none⟩), .agg #[.int .i64 2, .int .i64 pi, .int .i64 (po + a')], .string ⟨#[99]⟩, .agg #[.int .i64 1, .int .i64 1, .int .i64 0]] st' ∧ AtK B g (N + 1) st' L 23 #[.pointer (some ⟨g, 0, none⟩), .agg #[.int .i64 pk, .int .i64 pi, .int .i64 po]] (.tuple #[.int .i64 d, .int .i64 144])))
def CopS (B g N : Nat) (st : St) (L : Lay) (pk pi po qk qi qo n a a' : Int) : Prop := ∃ va vx vy f c gg, AtK B g N st L 22 #[.pointer (some ⟨g, 0, none⟩), .agg #[.int .i64 qk, .int .i64 qi, .int .i64 qo], .string ⟨#[112, 118]⟩] (.tuple #[.agg #[.int .i64 va, .int .i64 vx, .int .i64 vy], .int .i64 f]) ∧ AtK B g N st L 23 #[.pointer (some ⟨g, 0, none⟩), .agg #[.int .i64 qk, .int .i64 qi, .int .i64 qo]] (.tuple #[.int .i64 c, .int .i64 gg]) ∧
  ((∃ E, AtK B g N st L 24 #[.pointer (some ⟨g, 0, none⟩), .agg #[.int .i64 pk, .int .i64 pi, .int .i64 po], .agg #[.int .i64 qk, .int .i64 qi, .int .i64 qo], .int .i64 n] (.int .i64 E) ∧ (E != 0) = true) ∨ ∃ st', st'.bl.length = st.bl.length ∧ AtWr B g N st L 24 #[.pointer (some ⟨g, 0, none⟩), .agg #[.int .i64 pk, .int .i64 pi, .int .i64 po], .agg #[.int .i64 qk, .int .i64 qi, .int .i64 qo], .int .i64 n] st' ∧ CopA B g (N + 1) st' L pk pi po n va vx vy f ∧ CopB B g (N + 1) st' L pk pi po n a a' c gg)
def MadeC (w : World) (pk pi po qk qi qo n a a' : Int) (A : Option Addr) (m cap : Nat) : Prop := ∀ W, EnvQ w W pk pi po qk qi qo → Calls Tryd.prog 21 #[.slice A m cap] W fun e w' => ∃ B g N st L, e = .returned (.pointer (some ⟨g, 0, none⟩)) ∧ Below W.heap.size W w' ∧ Sto w' B g N st L ∧ W.heap.size ≤ B ∧ KeysIn w' ∧ CopS B g N st L pk pi po qk qi qo n a a'
def WorksC (w : World) (pk pi po qk qi qo : Int) : Prop := ∀ W, EnvQ w W pk pi po qk qi qo → Calls Tryd.prog 20 #[] W fun e w' => e = .returned (.bool true) ∧ Below W.heap.size W w'
section
variable {w : World} {pk pi po qk qi qo n a a' : Int} {A : Option Addr} {m cap : Nat}
set_option maxRecDepth 20000 in
set_option maxHeartbeats 40000000 in
theorem copies_walk (HW : Hid (WorksC w pk pi po qk qi qo)) (HM : Hid (MadeC w pk pi po qk qi qo n a a' A m cap)) (hat : IntKind.i64.wrap (Int.tmod (IntKind.u64.wrap a) 64) = a') :
    Calls Tryd.prog 4 #[.slice A m cap, .agg #[.int .i64 pk, .int .i64 pi, .int .i64 po], .agg #[.int .i64 qk, .int .i64 qi, .int .i64 qo], .int .i64 n, .int .i64 a] w fun e w' => e = .returned (.bool true) ∧ Below w.heap.size w w' := by
  have hgv := grdV
  have hev := eqV
  go_enter Tryd.func4, Tryd.ntmps4
  go_wp2_with (first
    | (go_at_call 20; refine (HW.out _ (EnvQ.new w pk pi po qk qi qo)).mono ?_; rintro e w0 ⟨rfl, hb⟩; have H := Lib.hid ((EnvQ.new w pk pi po qk qi qo).after hb); clear hb)
    | (go_at_call 21; refine (HM.out _ H.out).mono ?_; rintro e w0 ⟨B, g, N, st, L, rfl, hb, hs, hB, hky, hcs⟩; have h : LawF w w0 B g N st L pk pi po qk qi qo := ⟨H.out.after hb, hs, by have := (Array.getElem?_eq_some_iff.1 H.out.q).1; omega, hky⟩; obtain ⟨c0, c1, c2, c3, c4, c5⟩ := h.e.cells; (try clear H); have H := Lib.hid h; have HCS := Lib.hid hcs; clear h hb hs hB hky hcs))
  obtain ⟨va, vx, vy, f, c, gg, hl, hc, hcp⟩ := HCS.out
  have HL := Lib.hid hl
  have HC := Lib.hid hc
  have HCP := Lib.hid hcp
  clear hl hc hcp
  go_wp2_with (first
    | (go_at_call 22; refine (HL.out _ H.out.sto H.out.keys).mono ?_; rintro e w1 ⟨rfl, hb⟩; have h0 := H.out.after hb; have hv := Beside.new h0.sto va vx vy; have h := h0.alloc (.cells #[.int .i64 va, .int .i64 vx, .int .i64 vy] 24); clear c0 c1 c2 c3 c4 c5; obtain ⟨c0, c1, c2, c3, c4, c5⟩ := h.e.cells; (try clear H); have H := Lib.hid h; (try clear HV); have HV := Lib.hid hv; clear h h0 hv hb HL)
    | (go_at_call 23; refine (HC.out _ H.out.sto H.out.keys).mono ?_; rintro e w2 ⟨rfl, hb⟩; have h := H.out.after hb; have hv := HV.out.after hb; clear c0 c1 c2 c3 c4 c5; obtain ⟨c0, c1, c2, c3, c4, c5⟩ := h.e.cells; (try clear H); have H := Lib.hid h; (try clear HV); have HV := Lib.hid hv; clear h hv hb HC))
  obtain ⟨E, h24, hE⟩ | ⟨st', hlen, h24, hA, hB⟩ := HCP.out
  · have H24 := Lib.hid h24
    clear h24
    go_wp2_with (go_at_call 24; refine (H24.out _ H.out.sto H.out.keys).mono ?_; rintro e w3 ⟨rfl, hb⟩; have h := H.out.after hb; (try clear H); have H := Lib.hid h; clear h hb)
    go_ret
    exact ⟨rfl, H.out.e.below⟩
  · have H24 := Lib.hid h24
    have HB := Lib.hid hB
    have HLEN := Lib.hid hlen
    clear h24 hB hlen
    obtain hf | ⟨rfl, hn | ⟨hn, ua, ux, uy, e2, h22, hr | ⟨hr, hua, hux, huy, rfl⟩⟩⟩ := hA
    all_goals
      (try subst hua)
      (try subst hux)
      (try subst huy)
      (try have H22 := Lib.hid h22)
      (try clear h22)
      obtain hg | ⟨rfl, hm | ⟨hm, hq | ⟨hq, h23, hw, st2, d, hl2, h25, h23b⟩⟩⟩ := HB.out
      all_goals
        (try have H23 := Lib.hid h23)
        (try have H23b := Lib.hid h23b)
        (try have H25 := Lib.hid h25)
        (try have HL2 := Lib.hid hl2)
        (try clear h23)
        (try clear h23b)
        (try clear h25)
        (try clear hl2)
        first
        | (exfalso; exact absurd hq hr)
        | (exfalso; exact hq hr)
        | (exfalso; omega)
        | (go_wp2_with (first
             | (go_at_call 24; refine (H24.out _ H.out.sto H.out.keys).mono ?_; rintro e w3 ⟨rfl, hs, hf⟩; have h := H.out.wrote hf hs; have hv := HV.out.wrote hf HLEN.out; clear c0 c1 c2 c3 c4 c5; obtain ⟨c0, c1, c2, c3, c4, c5⟩ := h.e.cells; obtain ⟨v0, v1, v2⟩ := hv.var.cells; (try clear H); have H := Lib.hid h; (try clear HV); have HV := Lib.hid hv; clear h hv hs hf H24)
             | (go_at_call 22; first | (refine (H22.out _ H.out.sto H.out.keys).mono ?_; rintro e w4 ⟨rfl, hb⟩; have h0 := H.out.after hb; have hu := Beside.new h0.sto ua ux uy; have h := h0.alloc (.cells #[.int .i64 ua, .int .i64 ux, .int .i64 uy] 24); have hv := (HV.out.after hb).alloc (.cells #[.int .i64 ua, .int .i64 ux, .int .i64 uy] 24); clear c0 c1 c2 c3 c4 c5 v0 v1 v2; obtain ⟨c0, c1, c2, c3, c4, c5⟩ := h.e.cells; obtain ⟨v0, v1, v2⟩ := hv.var.cells; obtain ⟨u0, u1, u2⟩ := hu.var.cells; (try clear H); have H := Lib.hid h; (try clear HV); have HV := Lib.hid hv; clear h h0 hv hu hb H22) | (refine (H22.out _ H.out.sto H.out.keys).mono ?_; rintro e w4 ⟨rfl, hb⟩; have h0 := H.out.after hb; have hu := Beside.new h0.sto va vx vy; have h := h0.alloc (.cells #[.int .i64 va, .int .i64 vx, .int .i64 vy] 24); have hv := (HV.out.after hb).alloc (.cells #[.int .i64 va, .int .i64 vx, .int .i64 vy] 24); clear c0 c1 c2 c3 c4 c5 v0 v1 v2; obtain ⟨c0, c1, c2, c3, c4, c5⟩ := h.e.cells; obtain ⟨v0, v1, v2⟩ := hv.var.cells; obtain ⟨u0, u1, u2⟩ := hu.var.cells; (try clear H); have H := Lib.hid h; (try clear HV); have HV := Lib.hid hv; clear h h0 hv hu hb H22))
             | (go_at_call 23; first
               | (refine (H23.out _ H.out.sto H.out.keys).mono ?_; rintro e w5 ⟨rfl, hb⟩; have h := H.out.after hb; clear c0 c1 c2 c3 c4 c5; obtain ⟨c0, c1, c2, c3, c4, c5⟩ := h.e.cells; (try clear H); have H := Lib.hid h; clear h hb H23)
               | (refine (H23b.out _ H.out.sto H.out.keys).mono ?_; rintro e w7 ⟨rfl, hb⟩; have h := H.out.after hb; (try clear H); have H := Lib.hid h; clear h hb H23b))
             | (go_at_call 25; refine (H25.out _ H.out.sto H.out.keys).mono ?_; rintro e w6 ⟨rfl, hs, hf⟩; have h := H.out.wrote hf hs; clear c0 c1 c2 c3 c4 c5; obtain ⟨c0, c1, c2, c3, c4, c5⟩ := h.e.cells; (try clear H); have H := Lib.hid h; clear h hs hf H25))
           go_ret
           exact ⟨rfl, H.out.e.below⟩)
end
end Go.Proofs.YtejhphnlickjlaaDoor.bl
