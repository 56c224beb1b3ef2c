/-
  The walk of the law ValueNumbers. Condition: the table of keywords stands in memory; lengths.
-/
import Derived.Test.YtejhphnlickjlaaDoorVaU
import Derived.Test.YtejhphnlickjlaaDoorVaV
import Derived.Deep.RegionWith
namespace Go.Proofs.YtejhphnlickjlaaDoor.ty
open Go.ChangeShapes Go.WideShapes Go.RowKit
open M T W
set_option linter.unusedVariables false
theorem Row1.new (W : World) (a b c : Int) : Row1 (W.alloc (.cells #[.int .i64 a, .int .i64 b, .int .i64 c] 24)) W.heap.size a b c := heap_alloc_new W _
theorem Row1.frozen {w : World} {g : Nat} {k i o : Int} (h : Row1 w g k i o) : w.frozen? ⟨g, 0, none⟩ = false ∧ w.frozen? ⟨g, 1, none⟩ = false ∧ w.frozen? ⟨g, 2, none⟩ = false :=
  ⟨Go.Joins.unfrozen_of_block h 0, Go.Joins.unfrozen_of_block h 1, Go.Joins.unfrozen_of_block h 2⟩
/-- a struct stored whole -/
def put3 (W : World) (g : Nat) (a b c : Int) : World := ((W.setCell ⟨g, 0, none⟩ (.int .i64 a)).setCell ⟨g, 1, none⟩ (.int .i64 b)).setCell ⟨g, 2, none⟩ (.int .i64 c)
theorem put3_size (W : World) (g : Nat) (a b c : Int) : (put3 W g a b c).heap.size = W.heap.size := by simp [put3, World.setCell]
theorem put3_other {W : World} {g q : Nat} (a b c : Int) (h : q ≠ g) : (put3 W g a b c).heap[q]? = W.heap[q]? := by
  unfold put3
  rw [Below.heap_setCell _ _ _ _ h, Below.heap_setCell _ _ _ _ h, Below.heap_setCell _ _ _ _ h]
theorem Row1.put {W : World} {g : Nat} {k i o : Int} (h : Row1 W g k i o) (a b c : Int) : Row1 (put3 W g a b c) g a b c := by
  unfold Row1 at h
  unfold Row1 put3
  simp [World.setCell, Array.getElem?_modify, h]
theorem Row1.other {W : World} {g q : Nat} {k i o : Int} (h : Row1 W q k i o) (a b c : Int) (hq : q ≠ g) : Row1 (put3 W g a b c) q k i o := (put3_other a b c hq).trans h
theorem below_put3 {B : Nat} {w W : World} {g : Nat} (h : Below B w W) (hB : B ≤ g) (a b c : Int) : Below B w (put3 W g a b c) := ((h.setCell hB _).setCell hB _).setCell hB _
theorem EnvP.put {w W : World} {k i o : Int} {g : Nat} (h : EnvP w W k i o) (hg : w.heap.size < g) (a b c : Int) : EnvP w (put3 W g a b c) k i o :=
  ⟨below_put3 h.below (by omega) a b c, (put3_other a b c (by omega)).trans h.v⟩
theorem own_put3 {W : World} {base n g : Nat} {v : Value} {xs : List Value} (h : W.ownsRow base 5 1 v n xs) (hg : g < base) (a b c : Int) : (put3 W g a b c).ownsRow base 5 1 v n xs :=
  ownsRow_setCell_below (ownsRow_setCell_below (ownsRow_setCell_below h hg _) hg _) hg _
def OfP (w : World) (s : ByteArray) (k i o : Int) (f : FuncId) (b : Bool) : Prop := ∀ W, EnvP w W k i o → Calls Tryd.prog f #[.string s, .agg #[.int .i64 k, .int .i64 i, .int .i64 o]] W fun e w' => e = .returned (.bool b) ∧ EnvP w w' k i o
section
variable {w : World} {s t : ByteArray} {k i o n : Int} {b : Bool} {A : Option Addr} {m c : Nat} {l : List Int} {xa xb xc xe za zb zc ze ua ub uc ue : Int}
theorem OfP.get {f : FuncId} (h : OfP w s k i o f b) {W : World} (hW : EnvP w W k i o) : Calls Tryd.prog f #[.string s, .agg #[.int .i64 k, .int .i64 i, .int .i64 o]] W fun e w' => e = .returned (.bool b) ∧ EnvP w w' k i o := h W hW
theorem EnvP.drew {W : World} (h : EnvP w W k i o) : EnvP w W.drew k i o := ⟨h.below.drew, h.v⟩
def Tup (f : FuncId) (args : Array Value) (a b c e0 : Int) (W : World) : Prop := Calls Tryd.prog f args W fun e w' => e = .returned (.tuple #[.agg #[.int .i64 a, .int .i64 b, .int .i64 c], .int .i64 e0]) ∧ Below W.heap.size W w'
set_option maxRecDepth 20000 in
set_option maxHeartbeats 3200000 in
theorem law_walk (HOA : Hid (OfP w s k i o 8 b)) (HOB : Hid (OfP w s k i o 9 b))
    (H10 : Hid (∀ W, Tup 10 #[.string s, .int .i64 n] xa xb xc xe W)) (H11 : Hid (∀ W, Tup 11 #[.string s, .int .i64 n] xa xb xc xe W))
    (H12 : Hid (∀ W, EnvP w W k i o → Tup 12 #[.string s, .string t, .agg #[.int .i64 k, .int .i64 i, .int .i64 o]] za zb zc ze W)) (H13 : Hid (∀ W, Tup 13 #[.string s, .string t, .agg #[.int .i64 k, .int .i64 i, .int .i64 o]] za zb zc ze W))
    (HA : Hid (∀ W, Below w.heap.size w W → Rd W W.heap.size A (bs l)))
    (H14 : Hid (∀ W, Rd W W.heap.size A (bs l) → Calls Tryd.prog 14 #[.slice A m c] W fun e w' => ∃ A' c', e = .returned (.slice A' m c') ∧ m ≤ c' ∧ c' ≤ maxLen ∧ w'.ownsRow W.heap.size 5 1 (.slice A' m c') m (bs l) ∧ Below W.heap.size W w'))
    (H15 : Hid (∀ A c W, Rd W W.heap.size A (bs l) → Tup 15 #[.string s, .slice A m c] ua ub uc ue W)) (H16 : Hid (∀ A c W, Rd W W.heap.size A (bs l) → Tup 16 #[.string s, .slice A m c] ua ub uc ue W))
    (H17 : Hid (∀ W, EnvP w W k i o → Calls Tryd.prog 17 #[.string s, .agg #[.int .i64 k, .int .i64 i, .int .i64 o]] W fun e w' => PackS (T.nums s) k i o e w' ∧ Below W.heap.size W w'))
    (H18 : Hid (∀ W, Calls Tryd.prog 18 #[.string s, .agg #[.int .i64 k, .int .i64 i, .int .i64 o]] W fun e w' => PackS (T.nums s) k i o e w' ∧ Below W.heap.size W w'))
    (H19 : Hid (∀ A B n c d W (xs : List Int), xs.length = n → Rd W W.heap.size A (bs xs) → Rd W W.heap.size B (bs xs) → Calls Tryd.prog 19 #[.slice A n c, .slice B n d] W fun e w' => e = .returned (.bool true) ∧ W = w'))
    (Hl : Hid (l.length = m)) :
    Calls Tryd.prog 3 #[.string s, .string t, .agg #[.int .i64 k, .int .i64 i, .int .i64 o], .int .i64 n, .slice A m c] w fun e w' => e = .returned (.bool true) ∧ Below w.heap.size w w' := by
  have hd := (EnvP.new w k i o).drew
  go_enter Tryd.func3, Tryd.ntmps3
  go_wp2_with fail
  generalize w.alloc (.cells #[.int .i64 k, .int .i64 i, .int .i64 o] 24) = W0 at *
  refine region_class (C := fun W => EnvP w W k i o) (by kernel_rfl) (by kernel_rfl) hd ?_
  repeat (first | (refine q_skip (a' := ?_) (by rfl) ?_ ?_; rotate_left; (focus (simp only [Act.put, List.setIfInBounds_toArray, List.set_cons_zero, List.set_cons_succ]; with_reducible rfl))) | (refine q_take (v := ?_) (a' := ?_) (by rfl) (fun W hW => ?_) ?_ ?_; rotate_left 2; (focus (obtain ⟨ca, cb, cc⟩ := EnvP.vv hW; unfold Oper.quietAt; go_simp; first | done | (with_reducible rfl) | (with_reducible exact OfP.get HOA.out hW) | (with_reducible exact OfP.get HOB.out hW) | rfl | exact ⟨rfl, rfl⟩)); (focus (simp only [Act.put, List.setIfInBounds_toArray, List.set_cons_zero, List.set_cons_succ]; with_reducible rfl))))
  refine q_nil ?_
  intro W1 h1
  clear hd
  have E1 := Lib.hid h1
  clear h1
  go_wp2_with (first
    | (go_at_call 10; refine (H10.out _).mono ?_; rintro e w1 ⟨rfl, hb1⟩; have E2 := Lib.hid (E1.out.after hb1); clear hb1)
    | (go_at_call 11; refine (H11.out _).mono ?_; rintro e w2 ⟨rfl, hb2⟩; have E3 := Lib.hid ((E2.out.alloc _).after hb2); have X3 := Lib.hid ((Row1.new w1 xa xb xc).below hb2); clear hb2; obtain ⟨v0, v1, v2⟩ := (E3.out.alloc (.cells #[.int .i64 xa, .int .i64 xb, .int .i64 xc] 24)).vv)
    | (go_at_call 12; refine (H12.out _ (E3.out.alloc _)).mono ?_; rintro e w3 ⟨rfl, hb3⟩; have E4 := Lib.hid ((E3.out.alloc _).after hb3); have X4 := Lib.hid ((X3.out.alloc _).below hb3); have Y4 := Lib.hid ((Row1.new w2 xa xb xc).below hb3); clear hb3 v0 v1 v2; obtain ⟨v0, v1, v2⟩ := (E4.out.alloc (.cells #[.int .i64 za, .int .i64 zb, .int .i64 zc] 24)).vv)
    | (go_at_call 13; refine (H13.out _).mono ?_; rintro e w4 ⟨rfl, hb4⟩; have E5 := Lib.hid ((E4.out.alloc _).after hb4); have X5 := Lib.hid ((X4.out.alloc _).below hb4); have Y5 := Lib.hid ((Y4.out.alloc _).below hb4); have Z5 := Lib.hid ((Row1.new w3 za zb zc).below hb4); clear hb4 v0 v1 v2;
        obtain ⟨x0, x1, x2⟩ := (X5.out.alloc (.cells #[.int .i64 za, .int .i64 zb, .int .i64 zc] 24)).cells; obtain ⟨y0, y1, y2⟩ := (Y5.out.alloc (.cells #[.int .i64 za, .int .i64 zb, .int .i64 zc] 24)).cells; obtain ⟨z0, z1, z2⟩ := (Z5.out.alloc (.cells #[.int .i64 za, .int .i64 zb, .int .i64 zc] 24)).cells)
    | (go_at_call 14; refine (H14.out _ (HA.out _ (E5.out.alloc _).below)).mono ?_; rintro e w5 ⟨A5, c5, rfl, hk5, hm5, hown5, hb5⟩; have p1 : w.heap.size < w1.heap.size := (Array.getElem?_eq_some_iff.1 E2.out.v).1; have p2 : w1.heap.size < w2.heap.size := X3.out.lt; have p3 : w2.heap.size < w4.heap.size := Y5.out.lt;
        have E6 := Lib.hid ((E5.out.alloc _).after hb5); have X6 := Lib.hid ((X5.out.alloc _).below hb5); have Y6 := Lib.hid ((Y5.out.alloc _).below hb5); have O6 := Lib.hid hown5; have p4 : w2.heap.size < (w4.alloc (.cells #[.int .i64 za, .int .i64 zb, .int .i64 zc] 24)).heap.size := Nat.lt_of_lt_of_le p3 (by simp); have P4 := Lib.hid p4; have P1 := Lib.hid p1; have P2 := Lib.hid p2; clear hb5 hk5 hm5 hown5 p1 p2 p3 p4 x0 x1 x2 y0 y1 y2 z0 z1 z2)
    | (go_at_call 15; refine (H15.out _ _ _ (Rd.of_own O6.out)).mono ?_; rintro e w6 ⟨rfl, hb6⟩; have E7 := Lib.hid (E6.out.after hb6); have X7 := Lib.hid (X6.out.below hb6); have Y7 := Lib.hid (Y6.out.below hb6); have O7 := Lib.hid (own_below_size O6.out hb6); clear hb6; obtain ⟨x0, x1, x2⟩ := X7.out.cells; obtain ⟨f0, f1, f2⟩ := X7.out.frozen)
    | (go_at_call 16; refine (H16.out _ _ (put3 w6 w1.heap.size ua ub uc) (HA.out _ (below_put3 E7.out.below (Nat.le_of_lt P1.out) _ _ _))).mono ?_; rintro e w7 ⟨rfl, hb7⟩; have E8 := Lib.hid ((E7.out.put P1.out ua ub uc).after hb7); have X8 := Lib.hid ((X7.out.put ua ub uc).below hb7); have Y8 := Lib.hid ((Y7.out.other ua ub uc (Nat.ne_of_gt P2.out)).below hb7);
        have O8 := Lib.hid (own_below_size (own_put3 O7.out (Nat.lt_trans P2.out P4.out) ua ub uc) hb7); clear hb7 x0 x1 x2 f0 f1 f2; obtain ⟨y0, y1, y2⟩ := Y8.out.cells; obtain ⟨f0, f1, f2⟩ := Y8.out.frozen; have hv := (E8.out.put (Nat.lt_trans P1.out P2.out) ua ub uc).vv; unfold put3 at hv; obtain ⟨v0, v1, v2⟩ := hv)
    | (go_at_call 17; refine (H17.out (put3 w7 w2.heap.size ua ub uc) (E8.out.put (Nat.lt_trans P1.out P2.out) ua ub uc)).mono ?_; rintro e w8 ⟨⟨A8, c8, rfl, hr8⟩, hb8⟩; have E9 := Lib.hid ((E8.out.put (Nat.lt_trans P1.out P2.out) ua ub uc).after hb8); have X9 := Lib.hid ((X8.out.other ua ub uc (Nat.ne_of_lt P2.out)).below hb8); have Y9 := Lib.hid ((Y8.out.put ua ub uc).below hb8);
        have O9 := Lib.hid (own_below_size (own_put3 O8.out P4.out ua ub uc) hb8); have R8 := Lib.hid hr8; clear hb8 hr8 y0 y1 y2 f0 f1 f2 v0 v1 v2; obtain ⟨v0, v1, v2⟩ := E9.out.vv)
    | (go_at_call 18; refine (H18.out _).mono ?_; rintro e w9 ⟨⟨A9, c9, rfl, hr9⟩, hb9⟩; have EA := Lib.hid (E9.out.after hb9); have XA := Lib.hid (X9.out.below hb9); have YA := Lib.hid (Y9.out.below hb9); have OA := Lib.hid (own_below_size O9.out hb9); have RA := Lib.hid ((R8.out.below hb9).more hb9.size); have R9 := Lib.hid hr9; clear hb9 hr9 v0 v1 v2; obtain ⟨x0, x1, x2⟩ := XA.out.cells; obtain ⟨y0, y1, y2⟩ := YA.out.cells)
    | (go_at_call_of 19 A; refine (H19.out A5 A m c5 c w9 l Hl.out (Rd.of_own OA.out) (HA.out _ EA.out.below)).mono ?_; rintro e w' ⟨rfl, rfl⟩)
    | (go_at_call 19; refine (H19.out A8 A9 _ c8 c9 w9 (packL (T.nums s) k i o) rfl RA.out R9.out).mono ?_; rintro e w' ⟨rfl, rfl⟩))
  go_ret
  exact ⟨rfl, EA.out.below⟩
end
end Go.Proofs.YtejhphnlickjlaaDoor.ty
