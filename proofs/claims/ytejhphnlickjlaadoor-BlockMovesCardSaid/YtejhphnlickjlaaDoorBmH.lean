/-
  The contract of works of package catapultlaw14. Condition: the table of keywords stands in memory.
-/
import Derived.Test.YtejhphnlickjlaaDoorBmG
set_option linter.unusedVariables false
set_option linter.unusedSimpArgs false
namespace Go.Proofs.YtejhphnlickjlaaDoor.bl
open Go.RowKit
open M ty
set_option linter.unusedVariables false
theorem eqE (a i o a' i' o' : Int) (W : World) : (binOp .eql 24 (.agg #[.int .i64 a, .int .i64 i, .int .i64 o]) (.agg #[.int .i64 a', .int .i64 i', .int .i64 o'])).run Tryd.prog W = .ok (.bool (a == a' && (i == i' && o == o'))) W := by
  rw [run_eql_struct, run_equalIn_agg W 9999 24 _ _ und24 sih24]
  have h := fo24
  generalize (Tryd.prog.fieldsOf 24).toList = fs at *
  rcases fs with _ | ⟨f, _ | ⟨f1, _ | ⟨f2, _ | ⟨f3, r⟩⟩⟩⟩
  case cons.cons.cons.nil =>
    simp only [List.map_cons, List.map_nil, List.cons.injEq, Prod.mk.injEq] at h
    obtain ⟨⟨n0, t0, o0⟩, ⟨n1, t1, o1⟩, ⟨n2, t2, o2⟩, _⟩ := h
    simp [Op.eqFields, n0, t0, o0, n1, t1, o1, n2, t2, o2, part3, eqI]
    by_cases ha : a = a' <;> by_cases hi : i = i' <;> by_cases ho : o = o' <;> simp [ha, hi, ho]
  all_goals simp at h
def NewN (w : World) (B g : Nat) (st : St) : Prop := Calls Tryd.prog 55 #[] w fun e w' => e = .returned (.pointer (some ⟨g, 0, none⟩)) ∧ ∃ L, WkN w w' B g 0 st L
def MakeN (w : World) (B g : Nat) (st st' : St) : Prop := ∀ W L, WkN w W B g 0 st L → Calls Tryd.prog 56 #[.pointer (some ⟨g, 0, none⟩), .int .i64 8, .int .i64 0] W fun e w' => e = .returned (.tuple #[.int .i64 1, .int .i64 0]) ∧ ∃ L', WkN w w' B g 1 st' L'
/-- the value's variable where works ends -/
structure EndV (w W : World) (B V : Nat) (a x y : Int) : Prop where
  below : Below B w W
  var : VarAt W V a x y
  lt : B ≤ W.heap.size
theorem EndV.after {w W W' : World} {B V : Nat} {a x y : Int} (h : EndV w W B V a x y) (hb : Below W.heap.size W W') : EndV w W' B V a x y := ⟨h.below.trans (hb.mono h.lt), (hb.block _ (Array.getElem?_eq_some_iff.1 h.var).1).trans h.var, Nat.le_trans h.lt hb.size⟩
theorem EndV.drew {w W : World} {B V : Nat} {a x y : Int} (h : EndV w W B V a x y) : EndV w W.drew B V a x y := ⟨h.below.drew, h.var, h.lt⟩
theorem WkV.set3 {w W : World} {B g N : Nat} {st : St} {L : Lay} {V : Nat} {a x y : Int} (h : WkV w W B g N st L V a x y) (a' x' y' : Int) :
    EndV w (((W.setCell ⟨V, 0, none⟩ (.int .i64 a')).setCell ⟨V, 1, none⟩ (.int .i64 x')).setCell ⟨V, 2, none⟩ (.int .i64 y')) B V a' x' y' := by
  refine ⟨((h.n.below.setCell (p := ⟨V, 0, none⟩) h.BV _).setCell (p := ⟨V, 1, none⟩) h.BV _).setCell (p := ⟨V, 2, none⟩) h.BV _, ?_, by simpa [World.setCell] using h.n.Bs⟩
  have h1 := heap_set (o := 2) (heap_set (o := 1) (heap_set (o := 0) (show W.heap[V]? = _ from h.var) (.int .i64 a')) (.int .i64 x')) (.int .i64 y')
  unfold VarAt
  simpa using h1
def PtrC (w : World) (B V : Nat) (a x y : Int) : Prop := ∀ W, EndV w W B V a x y → Calls Tryd.prog 57 #[.int .i64 1, .int .i64 4] W fun e w' => e = .returned (.agg #[.int .i64 2, .int .i64 1, .int .i64 4]) ∧ EndV w w' B V a x y
theorem PtrC.get {w : World} {B V : Nat} {a x y : Int} (h : PtrC w B V a x y) {W : World} (hW : EndV w W B V a x y) : Calls Tryd.prog 57 #[.int .i64 1, .int .i64 4] W fun e w' => e = .returned (.agg #[.int .i64 2, .int .i64 1, .int .i64 4]) ∧ EndV w w' B V a x y := h W hW
section
variable {w : World} {B g : Nat} {s0 s1 s2 s3 : St}
set_option maxRecDepth 20000 in
set_option maxHeartbeats 6400000 in
theorem works_walk (HN : Hid (NewN w B g s0)) (HM : Hid (MakeN w B g s0 s1)) (HS1 : Hid (StoreN w B g 1 s1 s2 1 4 iT 1 300 0)) (HS2 : Hid (StoreN w B g 2 s2 s3 1 0 piT 2 1 4)) (HL1 : Hid (LoadN w B g 2 s2 1 4 cT 1 44 0 0)) (HL2 : Hid (LoadN w B g 2 s2 1 0 iT 0 0 0 143))
    (HL3 : Hid (LoadN w B g 3 s3 1 0 iT 0 0 0 144)) (HL4 : Hid (LoadN w B g 3 s3 1 0 pcT 2 1 4 0)) (HLEN : Hid (s3.bl.length = s2.bl.length)) :
    Calls Tryd.prog 20 #[] w fun e w' => e = .returned (.bool true) ∧ Below B w w' := by
  have hgv := grdV
  have hev := eqV
  have hee := eqE
  go_enter Tryd.func20, Tryd.ntmps20
  go_wp2_with (first
    | (go_at_call 55; refine HN.out.mono ?_; rintro e w1 ⟨rfl, L0, h⟩; have H := Lib.hid h; clear h)
    | (go_at_call 56; refine (HM.out _ _ H.out).mono ?_; rintro e w2 ⟨rfl, L1, h⟩; have H := Lib.hid h; clear h)
    | (go_at_call 57; refine (ptr_any _ _ _).mono ?_; rintro e wp ⟨rfl, hb⟩; have h := H.out.after hb; (try clear v0 v1 v2 f0 f1 f2); (try (obtain ⟨v0, v1, v2⟩ := h.var.cells; obtain ⟨f0, f1, f2⟩ := h.var.frozen)); have H := Lib.hid h; clear h hb)
    | (go_at_call 25; first
      | (refine (HS1.out _ _ H.out).mono ?_; rintro e w3 ⟨rfl, hs, hf⟩; have h := H.out.fr hf hs; have H := Lib.hid h; clear h hs hf HS1)
      | (refine (HS2.out _ _ H.out.n).mono ?_; rintro e w7 ⟨rfl, hs, hf⟩; have h := WkV.fr H.out hf hs HLEN.out; clear v0 v1 v2 f0 f1 f2; obtain ⟨v0, v1, v2⟩ := h.var.cells; obtain ⟨f0, f1, f2⟩ := h.var.frozen; have H := Lib.hid h; clear h hs hf))
    | (go_at_call 22; first
      | (refine (HL1.out _ _ H.out).mono ?_; rintro e w4 ⟨rfl, hb⟩; have h := WkV.new (H.out.after hb) 1 44 0; obtain ⟨v0, v1, v2⟩ := h.var.cells; obtain ⟨f0, f1, f2⟩ := h.var.frozen; have H := Lib.hid h; clear h hb HL1)
      | (refine (HL2.out _ _ H.out.n).mono ?_; rintro e w5 ⟨rfl, hb⟩; have h := (H.out.after hb).alloc (.cells #[.int .i64 0, .int .i64 0, .int .i64 0] 24); clear v0 v1 v2 f0 f1 f2; obtain ⟨v0, v1, v2⟩ := h.var.cells; obtain ⟨f0, f1, f2⟩ := h.var.frozen; have H := Lib.hid h; clear h hb HL2)
      | (refine (HL3.out _ _ H.out.n).mono ?_; rintro e w8 ⟨rfl, hb⟩; have h := H.out.after hb; clear v0 v1 v2 f0 f1 f2; obtain ⟨v0, v1, v2⟩ := h.var.cells; obtain ⟨f0, f1, f2⟩ := h.var.frozen; have H := Lib.hid h; clear h hb HL3)
      | (refine (HL4.out _ _ H.out.n).mono ?_; rintro e w9 ⟨rfl, hb⟩; have h := H.out.after hb; clear v0 v1 v2 f0 f1 f2; obtain ⟨v0, v1, v2⟩ := h.var.cells; obtain ⟨f0, f1, f2⟩ := h.var.frozen; have H := Lib.hid h; clear h hb)))
  have hE := (H.out.set3 2 1 4)
  generalize ((w9.setCell ⟨w4.heap.size, 0, none⟩ (.int .i64 2)).setCell ⟨w4.heap.size, 1, none⟩ (.int .i64 1)).setCell ⟨w4.heap.size, 2, none⟩ (.int .i64 4) = W at *
  clear v0 v1 v2 f0 f1 f2
  have HPT : Hid (PtrC w B w4.heap.size 2 1 4) := Lib.hid (fun W hW => (ptr_any 1 4 W).mono fun e w' ⟨a, b⟩ => ⟨a, hW.after b⟩)
  refine region_class (C := fun W => EndV w W B w4.heap.size 2 1 4) (by kernel_rfl) (by kernel_rfl) hE.drew ?_
  repeat (first | (refine q_skip (a' := ?_) (by rfl) ?_ ?_; rotate_left; (focus (simp only [Act.put, List.setIfInBounds_toArray, List.set_cons_zero, List.set_cons_succ]; with_reducible rfl))) | (refine q_take (v := ?_) (a' := ?_) (by rfl) (fun W hW => ?_) ?_ ?_; rotate_left 2; (focus (obtain ⟨ca, cb, cc⟩ := VarAt.cells (EndV.var hW); unfold Oper.quietAt; go_simp; first | done | (with_reducible rfl) | (with_reducible exact PtrC.get HPT.out hW) | rfl | exact ⟨rfl, rfl⟩)); (focus (simp only [Act.put, List.setIfInBounds_toArray, List.set_cons_zero, List.set_cons_succ]; with_reducible rfl))))
  refine q_nil ?_
  intro W' hW'
  have HE := Lib.hid hW'
  clear hW' hE
  go_wp2_with fail
  go_ret
  exact ⟨rfl, HE.out.below⟩
end
theorem works_any (w : World) (hK : KeysIn w) : Calls Tryd.prog 20 #[] w fun e w' => e = .returned (.bool true) ∧ Below w.heap.size w w' := by
  have h0 : 0 < w.heap.size := by
    obtain ⟨ad, e, hlt, _⟩ := hK (by rw [ne_eq, ← List.length_eq_zero_iff]; unfold strs; rw [List.length_map]; decide)
    omega
  have hlim : (10 : Nat) ≤ maxLen := by simp [maxLen]
  refine works_walk (g := w.heap.size + 1) (s0 := wst0) (s1 := wst1) (s2 := wst2) (s3 := wst3) (Lib.hid ?_) (Lib.hid ?_) (Lib.hid ?_) (Lib.hid ?_) (Lib.hid ?_) (Lib.hid ?_) (Lib.hid ?_) (Lib.hid ?_) (Lib.hid ?_)
  · exact (new_any w).mono fun e w' ⟨a, b, c⟩ => ⟨a, _, b, hK.below c, c, h0⟩
  · intro W L hW
    have := make_any hW.sto (by omega) (by simp [wst0]) 8 0
    rw [w_make, if_pos rfl] at this
    exact this.mono fun e w' ⟨a, b, c⟩ => by
      obtain ⟨⟨L', hs⟩, hf⟩ := b rfl
      exact ⟨a, L', hW.fr hf hs⟩
  · exact storeN (by omega) (Nat.le_trans (by decide) hlim) (by omega) (by omega) w_store1 width_i
  · exact storeN (by omega) (Nat.le_trans (by decide) hlim) (by omega) (by omega) w_store2 width_pi
  · exact loadN (Nat.le_trans (by decide) hlim) (by omega) (by omega) w_load1
  · exact loadN (Nat.le_trans (by decide) hlim) (by omega) (by omega) w_load2
  · exact loadN (Nat.le_trans (by decide) hlim) (by omega) (by omega) w_load3
  · exact loadN (Nat.le_trans (by decide) hlim) (by omega) (by omega) w_load4
  · rw [w_st3, w_st2]; rfl
end Go.Proofs.YtejhphnlickjlaaDoor.bl
