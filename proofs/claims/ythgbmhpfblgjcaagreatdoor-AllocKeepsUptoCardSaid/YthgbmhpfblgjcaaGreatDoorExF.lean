/-
  The walk of op of package ir. Conditions: what its calls answer.
-/
import Derived.Test.YthgbmhpfblgjcaaGreatDoorExM
import Derived.Laws.EntriesVeiled
set_option linter.unusedVariables false
set_option linter.unusedSimpArgs false
namespace Go.Proofs.YthgbmhpfblgjcaaGreatDoor.fl
open Go.RowKit Go.Shelf
open M T ty
set_option linter.unusedVariables false
/-- the variables of op stand -/
structure EnvO (w W : World) (R sl st k d a b imm : Int) (text : ByteArray) (AA : Option Addr) (na ac : Nat) (args : List Int) : Prop where
  below : Below w.heap.size w W
  p : BoundsAt W w.heap.size R sl st
  o : W.heap[w.heap.size + 1]? = some (.cells #[.int .i64 k, .int .i64 d, .int .i64 a, .int .i64 b, .int .i64 imm, .string text, .slice AA na ac] 72 (0, 0))
  rd : Rd W W.heap.size AA (ints args)
  keys : KeysIn W
/-- .. and the rule's -/
structure EnvR (w W : World) (R sl st k d a b imm : Int) (text : ByteArray) (AA : Option Addr) (na ac : Nat) (args : List Int) (V : Nat) (s : ByteArray) (rd ra rb rar rmb : Bool) (fi ft : Nat) : Prop where
  e : EnvO w W R sl st k d a b imm text AA na ac args
  r : W.heap[V]? = some (.cells #[.string s, .bool rd, .bool ra, .bool rb, .func (.func fi) #[] #[], .func (.func ft) #[] #[], .bool rar, .bool rmb] 191 (0, 0))
section
variable {w W W' : World} {R sl st k d a b imm : Int} {text : ByteArray} {AA : Option Addr} {na ac : Nat} {args : List Int} {V : Nat} {s : ByteArray} {rd ra rb rar rmb : Bool} {fi ft : Nat}
theorem EnvO.after (h : EnvO w W R sl st k d a b imm text AA na ac args) (hb : Below W.heap.size W W') : EnvO w W' R sl st k d a b imm text AA na ac args :=
  ⟨h.below.trans (hb.mono h.below.size), (hb.block _ (Array.getElem?_eq_some_iff.1 h.p).1).trans h.p, (hb.block _ (Array.getElem?_eq_some_iff.1 h.o).1).trans h.o, (h.rd.below hb).more hb.size, h.keys.below hb⟩
theorem EnvO.new (w : World) (R sl st k d a b imm : Int) (text : ByteArray) (AA : Option Addr) (na ac : Nat) (args : List Int) (hA : Rd w w.heap.size AA (ints args)) (hK : KeysIn w) : EnvO w ((w.alloc (.cells #[.int .i64 R, .int .i64 sl, .int .i64 st] 177)).alloc (.cells #[.int .i64 k, .int .i64 d, .int .i64 a, .int .i64 b, .int .i64 imm, .string text, .slice AA na ac] 72)) R sl st k d a b imm text AA na ac args := by
  have e1 := heap_alloc_new w (.cells #[.int .i64 R, .int .i64 sl, .int .i64 st] 177)
  have e2 := heap_alloc_new (w.alloc (.cells #[.int .i64 R, .int .i64 sl, .int .i64 st] 177)) (.cells #[.int .i64 k, .int .i64 d, .int .i64 a, .int .i64 b, .int .i64 imm, .string text, .slice AA na ac] 72)
  rw [World.size_alloc] at e2
  have b2 : Below (w.heap.size + 1) (w.alloc (.cells #[.int .i64 R, .int .i64 sl, .int .i64 st] 177)) ((w.alloc (.cells #[.int .i64 R, .int .i64 sl, .int .i64 st] 177)).alloc (.cells #[.int .i64 k, .int .i64 d, .int .i64 a, .int .i64 b, .int .i64 imm, .string text, .slice AA na ac] 72)) := (Below.refl _ _).alloc (by simp) _
  have hb : Below w.heap.size w ((w.alloc (.cells #[.int .i64 R, .int .i64 sl, .int .i64 st] 177)).alloc (.cells #[.int .i64 k, .int .i64 d, .int .i64 a, .int .i64 b, .int .i64 imm, .string text, .slice AA na ac] 72)) := ((Below.refl _ _).alloc (Nat.le_refl _) _).alloc (by simp) _
  exact ⟨hb, (b2.block _ (by omega)).trans e1, e2, (hA.below hb).more hb.size, hK.below hb⟩
theorem EnvR.after (h : EnvR w W R sl st k d a b imm text AA na ac args V s rd ra rb rar rmb fi ft) (hb : Below W.heap.size W W') : EnvR w W' R sl st k d a b imm text AA na ac args V s rd ra rb rar rmb fi ft := ⟨h.e.after hb, (hb.block _ (Array.getElem?_eq_some_iff.1 h.r).1).trans h.r⟩
theorem EnvR.new (h : EnvO w W R sl st k d a b imm text AA na ac args) (s : ByteArray) (rd ra rb rar rmb : Bool) (fi ft : Nat) : EnvR w (W.alloc (.cells #[.string s, .bool rd, .bool ra, .bool rb, .func (.func fi) #[] #[], .func (.func ft) #[] #[], .bool rar, .bool rmb] 191)) R sl st k d a b imm text AA na ac args W.heap.size s rd ra rb rar rmb fi ft := ⟨h.after ((Below.refl _ _).alloc (Nat.le_refl _) _), heap_alloc_new W _⟩
theorem EnvR.cells (h : EnvR w W R sl st k d a b imm text AA na ac args V s rd ra rb rar rmb fi ft) : W.cell? ⟨w.heap.size, 0, none⟩ = some (.int .i64 R) ∧ W.cell? ⟨w.heap.size, 1, none⟩ = some (.int .i64 sl) ∧ W.cell? ⟨w.heap.size, 2, none⟩ = some (.int .i64 st) ∧
    W.cell? ⟨w.heap.size + 1, 0, none⟩ = some (.int .i64 k) ∧ W.cell? ⟨w.heap.size + 1, 1, none⟩ = some (.int .i64 d) ∧ W.cell? ⟨w.heap.size + 1, 2, none⟩ = some (.int .i64 a) ∧ W.cell? ⟨w.heap.size + 1, 3, none⟩ = some (.int .i64 b) ∧ W.cell? ⟨w.heap.size + 1, 4, none⟩ = some (.int .i64 imm) ∧ W.cell? ⟨w.heap.size + 1, 5, none⟩ = some (.string text) ∧ W.cell? ⟨w.heap.size + 1, 6, none⟩ = some (.slice AA na ac) ∧
    W.cell? ⟨V, 0, none⟩ = some (.string s) ∧ W.cell? ⟨V, 1, none⟩ = some (.bool rd) ∧ W.cell? ⟨V, 2, none⟩ = some (.bool ra) ∧ W.cell? ⟨V, 3, none⟩ = some (.bool rb) ∧ W.cell? ⟨V, 4, none⟩ = some (.func (.func fi) #[] #[]) ∧ W.cell? ⟨V, 5, none⟩ = some (.func (.func ft) #[] #[]) ∧ W.cell? ⟨V, 6, none⟩ = some (.bool rar) ∧ W.cell? ⟨V, 7, none⟩ = some (.bool rmb) :=
  ⟨Go.Joins.cell_of_block h.e.p 0, Go.Joins.cell_of_block h.e.p 1, Go.Joins.cell_of_block h.e.p 2, Go.Joins.cell_of_block h.e.o 0, Go.Joins.cell_of_block h.e.o 1, Go.Joins.cell_of_block h.e.o 2, Go.Joins.cell_of_block h.e.o 3, Go.Joins.cell_of_block h.e.o 4, Go.Joins.cell_of_block h.e.o 5, Go.Joins.cell_of_block h.e.o 6,
   Go.Joins.cell_of_block h.r 0, Go.Joins.cell_of_block h.r 1, Go.Joins.cell_of_block h.r 2, Go.Joins.cell_of_block h.r 3, Go.Joins.cell_of_block h.r 4, Go.Joins.cell_of_block h.r 5, Go.Joins.cell_of_block h.r 6, Go.Joins.cell_of_block h.r 7⟩
end
/-- a call that reads, while op's variables stand -/
def AtO (w : World) (R sl st k d a b imm : Int) (text : ByteArray) (AA : Option Addr) (na ac : Nat) (args : List Int) (V : Nat) (s : ByteArray) (rd ra rb rar rmb : Bool) (fi ft : Nat) (f : Nat) (xs : Array Value) (v : Value) : Prop := ∀ W, EnvR w W R sl st k d a b imm text AA na ac args V s rd ra rb rar rmb fi ft → Calls Tryz.prog f xs W fun e w' => e = .returned v ∧ EnvR w w' R sl st k d a b imm text AA na ac args V s rd ra rb rar rmb fi ft
def RuleO (w : World) (R sl st k d a b imm : Int) (text : ByteArray) (AA : Option Addr) (na ac : Nat) (args : List Int) (s : ByteArray) (rd ra rb rar rmb : Bool) (fi ft : Nat) : Prop := ∀ W, EnvO w W R sl st k d a b imm text AA na ac args → Calls Tryz.prog 136 #[.int .i64 k] W fun e w' => e = .returned (.tuple #[.agg #[.string s, .bool rd, .bool ra, .bool rb, .func (.func fi) #[] #[], .func (.func ft) #[] #[], .bool rar, .bool rmb], .bool true]) ∧ EnvO w w' R sl st k d a b imm text AA na ac args
section
variable {w : World} {R sl st k d a b imm : Int} {text : ByteArray} {AA : Option Addr} {na ac : Nat} {args : List Int} {s : ByteArray} {rd ra rb rar rmb : Bool} {fi ft : Nat} {x1 x2 x3 x4 x5 xa bn ba bo : Bool} {bi : Int}
set_option maxRecDepth 20000 in
set_option maxHeartbeats 40000000 in
theorem op_early (hK : KeysIn w) (hA : Rd w w.heap.size AA (ints args)) (HRU : Hid (RuleO w R sl st k d a b imm text AA na ac args s rd ra rb rar rmb fi ft))
    (HR : Hid (∀ r u m V, AtO w R sl st k d a b imm text AA na ac args V s rd ra rb rar rmb fi ft 137 #[.agg #[.int .i64 R, .int .i64 sl, .int .i64 st], .int .i64 r, .bool u, .bool m] (.bool (regB R r u m)))) (heni : ∀ xs W, (callFunc fi xs).run Tryz.prog W = .ok (.enter fi xs) W) (hent : ∀ xs W, (callFunc ft xs).run Tryz.prog W = .ok (.enter ft xs) W)
    (HI : Hid (∀ V, AtO w R sl st k d a b imm text AA na ac args V s rd ra rb rar rmb fi ft fi #[.int .i64 imm] (.bool x4))) (HT : Hid (∀ V, AtO w R sl st k d a b imm text AA na ac args V s rd ra rb rar rmb fi ft ft #[.string text] (.bool x5)))
    (HC : Hid (∀ V, AtO w R sl st k d a b imm text AA na ac args V s rd ra rb rar rmb fi ft 138 #[.slice AA na ac, .func (.func 139) #[] #[.pointer (some ⟨w.heap.size, 0, none⟩)]] (.bool xa)))
    (HB : Hid (∀ V, AtO w R sl st k d a b imm text AA na ac args V s rd ra rb rar rmb fi ft 140 #[.string text] (.tuple #[.int .i64 bi, .bool ba, .bool bo])))
    (h_1 : regB R d rd rmb = x1) (h_2 : regB R a ra false = x2) (h_3 : regB R b rb false = x3) (hf : (x1 && (x2 && (x3 && (x4 && x5)))) = false) :
    Calls Tryz.prog 120 #[.agg #[.int .i64 R, .int .i64 sl, .int .i64 st], .agg #[.int .i64 k, .int .i64 d, .int .i64 a, .int .i64 b, .int .i64 imm, .string text, .slice AA na ac]] w fun e w' => e = .returned (.bool false) ∧ Below w.heap.size w w' := by
  cases x1 with
  | true =>
    cases x2 with
    | true =>
      cases x3 with
      | true =>
        cases x4 with
        | true =>
          cases x5 with
          | true =>
            simp at hf
          | false =>
            have HE := EnvO.new w R sl st k d a b imm text AA na ac args hA hK
            go_enter Tryz.func120, Tryz.ntmps120
            go_wp2_with (first
              | (go_at_call 136; refine (HRU.out _ HE).mono ?_; rintro e w0 ⟨rfl, h0⟩; have h1 := EnvR.new h0 s rd ra rb rar rmb fi ft; (try clear c0 c1 c2 o0 o1 o2 o3 o4 o5 o6 u0 u1 u2 u3 u4 u5 u6 u7); obtain ⟨c0, c1, c2, o0, o1, o2, o3, o4, o5, o6, u0, u1, u2, u3, u4, u5, u6, u7⟩ := h1.cells; (try clear H); have H := Lib.hid h1; clear h1; clear h0)
              | (go_at_call 137; refine (HR.out _ _ _ _ _ H.out).mono ?_; rintro e w1 ⟨rfl, h1⟩; (try rw [h_1]); (try rw [h_2]); (try rw [h_3]); (try clear c0 c1 c2 o0 o1 o2 o3 o4 o5 o6 u0 u1 u2 u3 u4 u5 u6 u7); obtain ⟨c0, c1, c2, o0, o1, o2, o3, o4, o5, o6, u0, u1, u2, u3, u4, u5, u6, u7⟩ := h1.cells; (try clear H); have H := Lib.hid h1; clear h1)
              | (go_at_call 138; refine (HC.out _ _ H.out).mono ?_; rintro e w2 ⟨rfl, h1⟩; (try clear c0 c1 c2 o0 o1 o2 o3 o4 o5 o6 u0 u1 u2 u3 u4 u5 u6 u7); obtain ⟨c0, c1, c2, o0, o1, o2, o3, o4, o5, o6, u0, u1, u2, u3, u4, u5, u6, u7⟩ := h1.cells; (try clear H); have H := Lib.hid h1; clear h1)
              | (go_at_call 140; refine (HB.out _ _ H.out).mono ?_; rintro e w3 ⟨rfl, h1⟩; (try clear c0 c1 c2 o0 o1 o2 o3 o4 o5 o6 u0 u1 u2 u3 u4 u5 u6 u7); obtain ⟨c0, c1, c2, o0, o1, o2, o3, o4, o5, o6, u0, u1, u2, u3, u4, u5, u6, u7⟩ := h1.cells; (try clear H); have H := Lib.hid h1; clear h1))
            refine (HI.out _ _ H.out).mono ?_
            rintro e w4 ⟨rfl, h1⟩
            (try clear c0 c1 c2 o0 o1 o2 o3 o4 o5 o6 u0 u1 u2 u3 u4 u5 u6 u7)
            obtain ⟨c0, c1, c2, o0, o1, o2, o3, o4, o5, o6, u0, u1, u2, u3, u4, u5, u6, u7⟩ := h1.cells
            (try clear H)
            have H := Lib.hid h1
            clear h1
            go_wp2_with (first
              | (go_at_call 136; refine (HRU.out _ HE).mono ?_; rintro e w0 ⟨rfl, h0⟩; have h1 := EnvR.new h0 s rd ra rb rar rmb fi ft; (try clear c0 c1 c2 o0 o1 o2 o3 o4 o5 o6 u0 u1 u2 u3 u4 u5 u6 u7); obtain ⟨c0, c1, c2, o0, o1, o2, o3, o4, o5, o6, u0, u1, u2, u3, u4, u5, u6, u7⟩ := h1.cells; (try clear H); have H := Lib.hid h1; clear h1; clear h0)
              | (go_at_call 137; refine (HR.out _ _ _ _ _ H.out).mono ?_; rintro e w1 ⟨rfl, h1⟩; (try rw [h_1]); (try rw [h_2]); (try rw [h_3]); (try clear c0 c1 c2 o0 o1 o2 o3 o4 o5 o6 u0 u1 u2 u3 u4 u5 u6 u7); obtain ⟨c0, c1, c2, o0, o1, o2, o3, o4, o5, o6, u0, u1, u2, u3, u4, u5, u6, u7⟩ := h1.cells; (try clear H); have H := Lib.hid h1; clear h1)
              | (go_at_call 138; refine (HC.out _ _ H.out).mono ?_; rintro e w2 ⟨rfl, h1⟩; (try clear c0 c1 c2 o0 o1 o2 o3 o4 o5 o6 u0 u1 u2 u3 u4 u5 u6 u7); obtain ⟨c0, c1, c2, o0, o1, o2, o3, o4, o5, o6, u0, u1, u2, u3, u4, u5, u6, u7⟩ := h1.cells; (try clear H); have H := Lib.hid h1; clear h1)
              | (go_at_call 140; refine (HB.out _ _ H.out).mono ?_; rintro e w3 ⟨rfl, h1⟩; (try clear c0 c1 c2 o0 o1 o2 o3 o4 o5 o6 u0 u1 u2 u3 u4 u5 u6 u7); obtain ⟨c0, c1, c2, o0, o1, o2, o3, o4, o5, o6, u0, u1, u2, u3, u4, u5, u6, u7⟩ := h1.cells; (try clear H); have H := Lib.hid h1; clear h1))
            refine (HT.out _ _ H.out).mono ?_
            rintro e w4 ⟨rfl, h1⟩
            (try clear c0 c1 c2 o0 o1 o2 o3 o4 o5 o6 u0 u1 u2 u3 u4 u5 u6 u7)
            obtain ⟨c0, c1, c2, o0, o1, o2, o3, o4, o5, o6, u0, u1, u2, u3, u4, u5, u6, u7⟩ := h1.cells
            (try clear H)
            have H := Lib.hid h1
            clear h1
            go_wp2_with (first
              | (go_at_call 136; refine (HRU.out _ HE).mono ?_; rintro e w0 ⟨rfl, h0⟩; have h1 := EnvR.new h0 s rd ra rb rar rmb fi ft; (try clear c0 c1 c2 o0 o1 o2 o3 o4 o5 o6 u0 u1 u2 u3 u4 u5 u6 u7); obtain ⟨c0, c1, c2, o0, o1, o2, o3, o4, o5, o6, u0, u1, u2, u3, u4, u5, u6, u7⟩ := h1.cells; (try clear H); have H := Lib.hid h1; clear h1; clear h0)
              | (go_at_call 137; refine (HR.out _ _ _ _ _ H.out).mono ?_; rintro e w1 ⟨rfl, h1⟩; (try rw [h_1]); (try rw [h_2]); (try rw [h_3]); (try clear c0 c1 c2 o0 o1 o2 o3 o4 o5 o6 u0 u1 u2 u3 u4 u5 u6 u7); obtain ⟨c0, c1, c2, o0, o1, o2, o3, o4, o5, o6, u0, u1, u2, u3, u4, u5, u6, u7⟩ := h1.cells; (try clear H); have H := Lib.hid h1; clear h1)
              | (go_at_call 138; refine (HC.out _ _ H.out).mono ?_; rintro e w2 ⟨rfl, h1⟩; (try clear c0 c1 c2 o0 o1 o2 o3 o4 o5 o6 u0 u1 u2 u3 u4 u5 u6 u7); obtain ⟨c0, c1, c2, o0, o1, o2, o3, o4, o5, o6, u0, u1, u2, u3, u4, u5, u6, u7⟩ := h1.cells; (try clear H); have H := Lib.hid h1; clear h1)
              | (go_at_call 140; refine (HB.out _ _ H.out).mono ?_; rintro e w3 ⟨rfl, h1⟩; (try clear c0 c1 c2 o0 o1 o2 o3 o4 o5 o6 u0 u1 u2 u3 u4 u5 u6 u7); obtain ⟨c0, c1, c2, o0, o1, o2, o3, o4, o5, o6, u0, u1, u2, u3, u4, u5, u6, u7⟩ := h1.cells; (try clear H); have H := Lib.hid h1; clear h1))
            go_ret
            exact ⟨rfl, H.out.e.below⟩
        | false =>
          have HE := EnvO.new w R sl st k d a b imm text AA na ac args hA hK
          go_enter Tryz.func120, Tryz.ntmps120
          go_wp2_with (first
            | (go_at_call 136; refine (HRU.out _ HE).mono ?_; rintro e w0 ⟨rfl, h0⟩; have h1 := EnvR.new h0 s rd ra rb rar rmb fi ft; (try clear c0 c1 c2 o0 o1 o2 o3 o4 o5 o6 u0 u1 u2 u3 u4 u5 u6 u7); obtain ⟨c0, c1, c2, o0, o1, o2, o3, o4, o5, o6, u0, u1, u2, u3, u4, u5, u6, u7⟩ := h1.cells; (try clear H); have H := Lib.hid h1; clear h1; clear h0)
            | (go_at_call 137; refine (HR.out _ _ _ _ _ H.out).mono ?_; rintro e w1 ⟨rfl, h1⟩; (try rw [h_1]); (try rw [h_2]); (try rw [h_3]); (try clear c0 c1 c2 o0 o1 o2 o3 o4 o5 o6 u0 u1 u2 u3 u4 u5 u6 u7); obtain ⟨c0, c1, c2, o0, o1, o2, o3, o4, o5, o6, u0, u1, u2, u3, u4, u5, u6, u7⟩ := h1.cells; (try clear H); have H := Lib.hid h1; clear h1)
            | (go_at_call 138; refine (HC.out _ _ H.out).mono ?_; rintro e w2 ⟨rfl, h1⟩; (try clear c0 c1 c2 o0 o1 o2 o3 o4 o5 o6 u0 u1 u2 u3 u4 u5 u6 u7); obtain ⟨c0, c1, c2, o0, o1, o2, o3, o4, o5, o6, u0, u1, u2, u3, u4, u5, u6, u7⟩ := h1.cells; (try clear H); have H := Lib.hid h1; clear h1)
            | (go_at_call 140; refine (HB.out _ _ H.out).mono ?_; rintro e w3 ⟨rfl, h1⟩; (try clear c0 c1 c2 o0 o1 o2 o3 o4 o5 o6 u0 u1 u2 u3 u4 u5 u6 u7); obtain ⟨c0, c1, c2, o0, o1, o2, o3, o4, o5, o6, u0, u1, u2, u3, u4, u5, u6, u7⟩ := h1.cells; (try clear H); have H := Lib.hid h1; clear h1))
          refine (HI.out _ _ H.out).mono ?_
          rintro e w4 ⟨rfl, h1⟩
          (try clear c0 c1 c2 o0 o1 o2 o3 o4 o5 o6 u0 u1 u2 u3 u4 u5 u6 u7)
          obtain ⟨c0, c1, c2, o0, o1, o2, o3, o4, o5, o6, u0, u1, u2, u3, u4, u5, u6, u7⟩ := h1.cells
          (try clear H)
          have H := Lib.hid h1
          clear h1
          go_wp2_with (first
            | (go_at_call 136; refine (HRU.out _ HE).mono ?_; rintro e w0 ⟨rfl, h0⟩; have h1 := EnvR.new h0 s rd ra rb rar rmb fi ft; (try clear c0 c1 c2 o0 o1 o2 o3 o4 o5 o6 u0 u1 u2 u3 u4 u5 u6 u7); obtain ⟨c0, c1, c2, o0, o1, o2, o3, o4, o5, o6, u0, u1, u2, u3, u4, u5, u6, u7⟩ := h1.cells; (try clear H); have H := Lib.hid h1; clear h1; clear h0)
            | (go_at_call 137; refine (HR.out _ _ _ _ _ H.out).mono ?_; rintro e w1 ⟨rfl, h1⟩; (try rw [h_1]); (try rw [h_2]); (try rw [h_3]); (try clear c0 c1 c2 o0 o1 o2 o3 o4 o5 o6 u0 u1 u2 u3 u4 u5 u6 u7); obtain ⟨c0, c1, c2, o0, o1, o2, o3, o4, o5, o6, u0, u1, u2, u3, u4, u5, u6, u7⟩ := h1.cells; (try clear H); have H := Lib.hid h1; clear h1)
            | (go_at_call 138; refine (HC.out _ _ H.out).mono ?_; rintro e w2 ⟨rfl, h1⟩; (try clear c0 c1 c2 o0 o1 o2 o3 o4 o5 o6 u0 u1 u2 u3 u4 u5 u6 u7); obtain ⟨c0, c1, c2, o0, o1, o2, o3, o4, o5, o6, u0, u1, u2, u3, u4, u5, u6, u7⟩ := h1.cells; (try clear H); have H := Lib.hid h1; clear h1)
            | (go_at_call 140; refine (HB.out _ _ H.out).mono ?_; rintro e w3 ⟨rfl, h1⟩; (try clear c0 c1 c2 o0 o1 o2 o3 o4 o5 o6 u0 u1 u2 u3 u4 u5 u6 u7); obtain ⟨c0, c1, c2, o0, o1, o2, o3, o4, o5, o6, u0, u1, u2, u3, u4, u5, u6, u7⟩ := h1.cells; (try clear H); have H := Lib.hid h1; clear h1))
          go_ret
          exact ⟨rfl, H.out.e.below⟩
      | false =>
        have HE := EnvO.new w R sl st k d a b imm text AA na ac args hA hK
        go_enter Tryz.func120, Tryz.ntmps120
        go_wp2_with (first
          | (go_at_call 136; refine (HRU.out _ HE).mono ?_; rintro e w0 ⟨rfl, h0⟩; have h1 := EnvR.new h0 s rd ra rb rar rmb fi ft; (try clear c0 c1 c2 o0 o1 o2 o3 o4 o5 o6 u0 u1 u2 u3 u4 u5 u6 u7); obtain ⟨c0, c1, c2, o0, o1, o2, o3, o4, o5, o6, u0, u1, u2, u3, u4, u5, u6, u7⟩ := h1.cells; (try clear H); have H := Lib.hid h1; clear h1; clear h0)
          | (go_at_call 137; refine (HR.out _ _ _ _ _ H.out).mono ?_; rintro e w1 ⟨rfl, h1⟩; (try rw [h_1]); (try rw [h_2]); (try rw [h_3]); (try clear c0 c1 c2 o0 o1 o2 o3 o4 o5 o6 u0 u1 u2 u3 u4 u5 u6 u7); obtain ⟨c0, c1, c2, o0, o1, o2, o3, o4, o5, o6, u0, u1, u2, u3, u4, u5, u6, u7⟩ := h1.cells; (try clear H); have H := Lib.hid h1; clear h1)
          | (go_at_call 138; refine (HC.out _ _ H.out).mono ?_; rintro e w2 ⟨rfl, h1⟩; (try clear c0 c1 c2 o0 o1 o2 o3 o4 o5 o6 u0 u1 u2 u3 u4 u5 u6 u7); obtain ⟨c0, c1, c2, o0, o1, o2, o3, o4, o5, o6, u0, u1, u2, u3, u4, u5, u6, u7⟩ := h1.cells; (try clear H); have H := Lib.hid h1; clear h1)
          | (go_at_call 140; refine (HB.out _ _ H.out).mono ?_; rintro e w3 ⟨rfl, h1⟩; (try clear c0 c1 c2 o0 o1 o2 o3 o4 o5 o6 u0 u1 u2 u3 u4 u5 u6 u7); obtain ⟨c0, c1, c2, o0, o1, o2, o3, o4, o5, o6, u0, u1, u2, u3, u4, u5, u6, u7⟩ := h1.cells; (try clear H); have H := Lib.hid h1; clear h1))
        go_ret
        exact ⟨rfl, H.out.e.below⟩
    | false =>
      have HE := EnvO.new w R sl st k d a b imm text AA na ac args hA hK
      go_enter Tryz.func120, Tryz.ntmps120
      go_wp2_with (first
        | (go_at_call 136; refine (HRU.out _ HE).mono ?_; rintro e w0 ⟨rfl, h0⟩; have h1 := EnvR.new h0 s rd ra rb rar rmb fi ft; (try clear c0 c1 c2 o0 o1 o2 o3 o4 o5 o6 u0 u1 u2 u3 u4 u5 u6 u7); obtain ⟨c0, c1, c2, o0, o1, o2, o3, o4, o5, o6, u0, u1, u2, u3, u4, u5, u6, u7⟩ := h1.cells; (try clear H); have H := Lib.hid h1; clear h1; clear h0)
        | (go_at_call 137; refine (HR.out _ _ _ _ _ H.out).mono ?_; rintro e w1 ⟨rfl, h1⟩; (try rw [h_1]); (try rw [h_2]); (try rw [h_3]); (try clear c0 c1 c2 o0 o1 o2 o3 o4 o5 o6 u0 u1 u2 u3 u4 u5 u6 u7); obtain ⟨c0, c1, c2, o0, o1, o2, o3, o4, o5, o6, u0, u1, u2, u3, u4, u5, u6, u7⟩ := h1.cells; (try clear H); have H := Lib.hid h1; clear h1)
        | (go_at_call 138; refine (HC.out _ _ H.out).mono ?_; rintro e w2 ⟨rfl, h1⟩; (try clear c0 c1 c2 o0 o1 o2 o3 o4 o5 o6 u0 u1 u2 u3 u4 u5 u6 u7); obtain ⟨c0, c1, c2, o0, o1, o2, o3, o4, o5, o6, u0, u1, u2, u3, u4, u5, u6, u7⟩ := h1.cells; (try clear H); have H := Lib.hid h1; clear h1)
        | (go_at_call 140; refine (HB.out _ _ H.out).mono ?_; rintro e w3 ⟨rfl, h1⟩; (try clear c0 c1 c2 o0 o1 o2 o3 o4 o5 o6 u0 u1 u2 u3 u4 u5 u6 u7); obtain ⟨c0, c1, c2, o0, o1, o2, o3, o4, o5, o6, u0, u1, u2, u3, u4, u5, u6, u7⟩ := h1.cells; (try clear H); have H := Lib.hid h1; clear h1))
      go_ret
      exact ⟨rfl, H.out.e.below⟩
  | false =>
    have HE := EnvO.new w R sl st k d a b imm text AA na ac args hA hK
    go_enter Tryz.func120, Tryz.ntmps120
    go_wp2_with (first
      | (go_at_call 136; refine (HRU.out _ HE).mono ?_; rintro e w0 ⟨rfl, h0⟩; have h1 := EnvR.new h0 s rd ra rb rar rmb fi ft; (try clear c0 c1 c2 o0 o1 o2 o3 o4 o5 o6 u0 u1 u2 u3 u4 u5 u6 u7); obtain ⟨c0, c1, c2, o0, o1, o2, o3, o4, o5, o6, u0, u1, u2, u3, u4, u5, u6, u7⟩ := h1.cells; (try clear H); have H := Lib.hid h1; clear h1; clear h0)
      | (go_at_call 137; refine (HR.out _ _ _ _ _ H.out).mono ?_; rintro e w1 ⟨rfl, h1⟩; (try rw [h_1]); (try rw [h_2]); (try rw [h_3]); (try clear c0 c1 c2 o0 o1 o2 o3 o4 o5 o6 u0 u1 u2 u3 u4 u5 u6 u7); obtain ⟨c0, c1, c2, o0, o1, o2, o3, o4, o5, o6, u0, u1, u2, u3, u4, u5, u6, u7⟩ := h1.cells; (try clear H); have H := Lib.hid h1; clear h1)
      | (go_at_call 138; refine (HC.out _ _ H.out).mono ?_; rintro e w2 ⟨rfl, h1⟩; (try clear c0 c1 c2 o0 o1 o2 o3 o4 o5 o6 u0 u1 u2 u3 u4 u5 u6 u7); obtain ⟨c0, c1, c2, o0, o1, o2, o3, o4, o5, o6, u0, u1, u2, u3, u4, u5, u6, u7⟩ := h1.cells; (try clear H); have H := Lib.hid h1; clear h1)
      | (go_at_call 140; refine (HB.out _ _ H.out).mono ?_; rintro e w3 ⟨rfl, h1⟩; (try clear c0 c1 c2 o0 o1 o2 o3 o4 o5 o6 u0 u1 u2 u3 u4 u5 u6 u7); obtain ⟨c0, c1, c2, o0, o1, o2, o3, o4, o5, o6, u0, u1, u2, u3, u4, u5, u6, u7⟩ := h1.cells; (try clear H); have H := Lib.hid h1; clear h1))
    go_ret
    exact ⟨rfl, H.out.e.below⟩
set_option maxRecDepth 20000 in
set_option maxHeartbeats 40000000 in
theorem op_args (hK : KeysIn w) (hA : Rd w w.heap.size AA (ints args)) (HRU : Hid (RuleO w R sl st k d a b imm text AA na ac args s rd ra rb rar rmb fi ft))
    (HR : Hid (∀ r u m V, AtO w R sl st k d a b imm text AA na ac args V s rd ra rb rar rmb fi ft 137 #[.agg #[.int .i64 R, .int .i64 sl, .int .i64 st], .int .i64 r, .bool u, .bool m] (.bool (regB R r u m)))) (heni : ∀ xs W, (callFunc fi xs).run Tryz.prog W = .ok (.enter fi xs) W) (hent : ∀ xs W, (callFunc ft xs).run Tryz.prog W = .ok (.enter ft xs) W)
    (HI : Hid (∀ V, AtO w R sl st k d a b imm text AA na ac args V s rd ra rb rar rmb fi ft fi #[.int .i64 imm] (.bool true))) (HT : Hid (∀ V, AtO w R sl st k d a b imm text AA na ac args V s rd ra rb rar rmb fi ft ft #[.string text] (.bool true)))
    (HC : Hid (∀ V, AtO w R sl st k d a b imm text AA na ac args V s rd ra rb rar rmb fi ft 138 #[.slice AA na ac, .func (.func 139) #[] #[.pointer (some ⟨w.heap.size, 0, none⟩)]] (.bool xa)))
    (HB : Hid (∀ V, AtO w R sl st k d a b imm text AA na ac args V s rd ra rb rar rmb fi ft 140 #[.string text] (.tuple #[.int .i64 bi, .bool ba, .bool bo])))
    (h_1 : regB R d rd rmb = true) (h_2 : regB R a ra false = true) (h_3 : regB R b rb false = true) (hf : ((rar || decide (na = 0)) && (!xa)) = false) :
    Calls Tryz.prog 120 #[.agg #[.int .i64 R, .int .i64 sl, .int .i64 st], .agg #[.int .i64 k, .int .i64 d, .int .i64 a, .int .i64 b, .int .i64 imm, .string text, .slice AA na ac]] w fun e w' => e = .returned (.bool false) ∧ Below w.heap.size w w' := by
  cases rar with
  | true =>
    obtain rfl : xa = true := by simpa using hf
    clear hf
    have HE := EnvO.new w R sl st k d a b imm text AA na ac args hA hK
    go_enter Tryz.func120, Tryz.ntmps120
    go_wp2_with (first
      | (go_at_call 136; refine (HRU.out _ HE).mono ?_; rintro e w0 ⟨rfl, h0⟩; have h1 := EnvR.new h0 s rd ra rb true rmb fi ft; (try clear c0 c1 c2 o0 o1 o2 o3 o4 o5 o6 u0 u1 u2 u3 u4 u5 u6 u7); obtain ⟨c0, c1, c2, o0, o1, o2, o3, o4, o5, o6, u0, u1, u2, u3, u4, u5, u6, u7⟩ := h1.cells; (try clear H); have H := Lib.hid h1; clear h1; clear h0)
      | (go_at_call 137; refine (HR.out _ _ _ _ _ H.out).mono ?_; rintro e w1 ⟨rfl, h1⟩; (try rw [h_1]); (try rw [h_2]); (try rw [h_3]); (try clear c0 c1 c2 o0 o1 o2 o3 o4 o5 o6 u0 u1 u2 u3 u4 u5 u6 u7); obtain ⟨c0, c1, c2, o0, o1, o2, o3, o4, o5, o6, u0, u1, u2, u3, u4, u5, u6, u7⟩ := h1.cells; (try clear H); have H := Lib.hid h1; clear h1)
      | (go_at_call 138; refine (HC.out _ _ H.out).mono ?_; rintro e w2 ⟨rfl, h1⟩; (try clear c0 c1 c2 o0 o1 o2 o3 o4 o5 o6 u0 u1 u2 u3 u4 u5 u6 u7); obtain ⟨c0, c1, c2, o0, o1, o2, o3, o4, o5, o6, u0, u1, u2, u3, u4, u5, u6, u7⟩ := h1.cells; (try clear H); have H := Lib.hid h1; clear h1)
      | (go_at_call 140; refine (HB.out _ _ H.out).mono ?_; rintro e w3 ⟨rfl, h1⟩; (try clear c0 c1 c2 o0 o1 o2 o3 o4 o5 o6 u0 u1 u2 u3 u4 u5 u6 u7); obtain ⟨c0, c1, c2, o0, o1, o2, o3, o4, o5, o6, u0, u1, u2, u3, u4, u5, u6, u7⟩ := h1.cells; (try clear H); have H := Lib.hid h1; clear h1))
    refine (HI.out _ _ H.out).mono ?_
    rintro e w4 ⟨rfl, h1⟩
    (try clear c0 c1 c2 o0 o1 o2 o3 o4 o5 o6 u0 u1 u2 u3 u4 u5 u6 u7)
    obtain ⟨c0, c1, c2, o0, o1, o2, o3, o4, o5, o6, u0, u1, u2, u3, u4, u5, u6, u7⟩ := h1.cells
    (try clear H)
    have H := Lib.hid h1
    clear h1
    go_wp2_with (first
      | (go_at_call 136; refine (HRU.out _ HE).mono ?_; rintro e w0 ⟨rfl, h0⟩; have h1 := EnvR.new h0 s rd ra rb true rmb fi ft; (try clear c0 c1 c2 o0 o1 o2 o3 o4 o5 o6 u0 u1 u2 u3 u4 u5 u6 u7); obtain ⟨c0, c1, c2, o0, o1, o2, o3, o4, o5, o6, u0, u1, u2, u3, u4, u5, u6, u7⟩ := h1.cells; (try clear H); have H := Lib.hid h1; clear h1; clear h0)
      | (go_at_call 137; refine (HR.out _ _ _ _ _ H.out).mono ?_; rintro e w1 ⟨rfl, h1⟩; (try rw [h_1]); (try rw [h_2]); (try rw [h_3]); (try clear c0 c1 c2 o0 o1 o2 o3 o4 o5 o6 u0 u1 u2 u3 u4 u5 u6 u7); obtain ⟨c0, c1, c2, o0, o1, o2, o3, o4, o5, o6, u0, u1, u2, u3, u4, u5, u6, u7⟩ := h1.cells; (try clear H); have H := Lib.hid h1; clear h1)
      | (go_at_call 138; refine (HC.out _ _ H.out).mono ?_; rintro e w2 ⟨rfl, h1⟩; (try clear c0 c1 c2 o0 o1 o2 o3 o4 o5 o6 u0 u1 u2 u3 u4 u5 u6 u7); obtain ⟨c0, c1, c2, o0, o1, o2, o3, o4, o5, o6, u0, u1, u2, u3, u4, u5, u6, u7⟩ := h1.cells; (try clear H); have H := Lib.hid h1; clear h1)
      | (go_at_call 140; refine (HB.out _ _ H.out).mono ?_; rintro e w3 ⟨rfl, h1⟩; (try clear c0 c1 c2 o0 o1 o2 o3 o4 o5 o6 u0 u1 u2 u3 u4 u5 u6 u7); obtain ⟨c0, c1, c2, o0, o1, o2, o3, o4, o5, o6, u0, u1, u2, u3, u4, u5, u6, u7⟩ := h1.cells; (try clear H); have H := Lib.hid h1; clear h1))
    refine (HT.out _ _ H.out).mono ?_
    rintro e w4 ⟨rfl, h1⟩
    (try clear c0 c1 c2 o0 o1 o2 o3 o4 o5 o6 u0 u1 u2 u3 u4 u5 u6 u7)
    obtain ⟨c0, c1, c2, o0, o1, o2, o3, o4, o5, o6, u0, u1, u2, u3, u4, u5, u6, u7⟩ := h1.cells
    (try clear H)
    have H := Lib.hid h1
    clear h1
    go_wp2_with (first
      | (go_at_call 136; refine (HRU.out _ HE).mono ?_; rintro e w0 ⟨rfl, h0⟩; have h1 := EnvR.new h0 s rd ra rb true rmb fi ft; (try clear c0 c1 c2 o0 o1 o2 o3 o4 o5 o6 u0 u1 u2 u3 u4 u5 u6 u7); obtain ⟨c0, c1, c2, o0, o1, o2, o3, o4, o5, o6, u0, u1, u2, u3, u4, u5, u6, u7⟩ := h1.cells; (try clear H); have H := Lib.hid h1; clear h1; clear h0)
      | (go_at_call 137; refine (HR.out _ _ _ _ _ H.out).mono ?_; rintro e w1 ⟨rfl, h1⟩; (try rw [h_1]); (try rw [h_2]); (try rw [h_3]); (try clear c0 c1 c2 o0 o1 o2 o3 o4 o5 o6 u0 u1 u2 u3 u4 u5 u6 u7); obtain ⟨c0, c1, c2, o0, o1, o2, o3, o4, o5, o6, u0, u1, u2, u3, u4, u5, u6, u7⟩ := h1.cells; (try clear H); have H := Lib.hid h1; clear h1)
      | (go_at_call 138; refine (HC.out _ _ H.out).mono ?_; rintro e w2 ⟨rfl, h1⟩; (try clear c0 c1 c2 o0 o1 o2 o3 o4 o5 o6 u0 u1 u2 u3 u4 u5 u6 u7); obtain ⟨c0, c1, c2, o0, o1, o2, o3, o4, o5, o6, u0, u1, u2, u3, u4, u5, u6, u7⟩ := h1.cells; (try clear H); have H := Lib.hid h1; clear h1)
      | (go_at_call 140; refine (HB.out _ _ H.out).mono ?_; rintro e w3 ⟨rfl, h1⟩; (try clear c0 c1 c2 o0 o1 o2 o3 o4 o5 o6 u0 u1 u2 u3 u4 u5 u6 u7); obtain ⟨c0, c1, c2, o0, o1, o2, o3, o4, o5, o6, u0, u1, u2, u3, u4, u5, u6, u7⟩ := h1.cells; (try clear H); have H := Lib.hid h1; clear h1))
    go_ret
    exact ⟨rfl, H.out.e.below⟩
  | false =>
    by_cases h0 : na = 0
    · obtain rfl : xa = true := by simpa [h0] using hf
      have hz : ¬ (0 : Int) < (na : Int) := by omega
      clear hf h0
      have HE := EnvO.new w R sl st k d a b imm text AA na ac args hA hK
      go_enter Tryz.func120, Tryz.ntmps120
      go_wp2_with (first
        | (go_at_call 136; refine (HRU.out _ HE).mono ?_; rintro e w0 ⟨rfl, h0⟩; have h1 := EnvR.new h0 s rd ra rb false rmb fi ft; (try clear c0 c1 c2 o0 o1 o2 o3 o4 o5 o6 u0 u1 u2 u3 u4 u5 u6 u7); obtain ⟨c0, c1, c2, o0, o1, o2, o3, o4, o5, o6, u0, u1, u2, u3, u4, u5, u6, u7⟩ := h1.cells; (try clear H); have H := Lib.hid h1; clear h1; clear h0)
        | (go_at_call 137; refine (HR.out _ _ _ _ _ H.out).mono ?_; rintro e w1 ⟨rfl, h1⟩; (try rw [h_1]); (try rw [h_2]); (try rw [h_3]); (try clear c0 c1 c2 o0 o1 o2 o3 o4 o5 o6 u0 u1 u2 u3 u4 u5 u6 u7); obtain ⟨c0, c1, c2, o0, o1, o2, o3, o4, o5, o6, u0, u1, u2, u3, u4, u5, u6, u7⟩ := h1.cells; (try clear H); have H := Lib.hid h1; clear h1)
        | (go_at_call 138; refine (HC.out _ _ H.out).mono ?_; rintro e w2 ⟨rfl, h1⟩; (try clear c0 c1 c2 o0 o1 o2 o3 o4 o5 o6 u0 u1 u2 u3 u4 u5 u6 u7); obtain ⟨c0, c1, c2, o0, o1, o2, o3, o4, o5, o6, u0, u1, u2, u3, u4, u5, u6, u7⟩ := h1.cells; (try clear H); have H := Lib.hid h1; clear h1)
        | (go_at_call 140; refine (HB.out _ _ H.out).mono ?_; rintro e w3 ⟨rfl, h1⟩; (try clear c0 c1 c2 o0 o1 o2 o3 o4 o5 o6 u0 u1 u2 u3 u4 u5 u6 u7); obtain ⟨c0, c1, c2, o0, o1, o2, o3, o4, o5, o6, u0, u1, u2, u3, u4, u5, u6, u7⟩ := h1.cells; (try clear H); have H := Lib.hid h1; clear h1))
      refine (HI.out _ _ H.out).mono ?_
      rintro e w4 ⟨rfl, h1⟩
      (try clear c0 c1 c2 o0 o1 o2 o3 o4 o5 o6 u0 u1 u2 u3 u4 u5 u6 u7)
      obtain ⟨c0, c1, c2, o0, o1, o2, o3, o4, o5, o6, u0, u1, u2, u3, u4, u5, u6, u7⟩ := h1.cells
      (try clear H)
      have H := Lib.hid h1
      clear h1
      go_wp2_with (first
        | (go_at_call 136; refine (HRU.out _ HE).mono ?_; rintro e w0 ⟨rfl, h0⟩; have h1 := EnvR.new h0 s rd ra rb false rmb fi ft; (try clear c0 c1 c2 o0 o1 o2 o3 o4 o5 o6 u0 u1 u2 u3 u4 u5 u6 u7); obtain ⟨c0, c1, c2, o0, o1, o2, o3, o4, o5, o6, u0, u1, u2, u3, u4, u5, u6, u7⟩ := h1.cells; (try clear H); have H := Lib.hid h1; clear h1; clear h0)
        | (go_at_call 137; refine (HR.out _ _ _ _ _ H.out).mono ?_; rintro e w1 ⟨rfl, h1⟩; (try rw [h_1]); (try rw [h_2]); (try rw [h_3]); (try clear c0 c1 c2 o0 o1 o2 o3 o4 o5 o6 u0 u1 u2 u3 u4 u5 u6 u7); obtain ⟨c0, c1, c2, o0, o1, o2, o3, o4, o5, o6, u0, u1, u2, u3, u4, u5, u6, u7⟩ := h1.cells; (try clear H); have H := Lib.hid h1; clear h1)
        | (go_at_call 138; refine (HC.out _ _ H.out).mono ?_; rintro e w2 ⟨rfl, h1⟩; (try clear c0 c1 c2 o0 o1 o2 o3 o4 o5 o6 u0 u1 u2 u3 u4 u5 u6 u7); obtain ⟨c0, c1, c2, o0, o1, o2, o3, o4, o5, o6, u0, u1, u2, u3, u4, u5, u6, u7⟩ := h1.cells; (try clear H); have H := Lib.hid h1; clear h1)
        | (go_at_call 140; refine (HB.out _ _ H.out).mono ?_; rintro e w3 ⟨rfl, h1⟩; (try clear c0 c1 c2 o0 o1 o2 o3 o4 o5 o6 u0 u1 u2 u3 u4 u5 u6 u7); obtain ⟨c0, c1, c2, o0, o1, o2, o3, o4, o5, o6, u0, u1, u2, u3, u4, u5, u6, u7⟩ := h1.cells; (try clear H); have H := Lib.hid h1; clear h1))
      refine (HT.out _ _ H.out).mono ?_
      rintro e w4 ⟨rfl, h1⟩
      (try clear c0 c1 c2 o0 o1 o2 o3 o4 o5 o6 u0 u1 u2 u3 u4 u5 u6 u7)
      obtain ⟨c0, c1, c2, o0, o1, o2, o3, o4, o5, o6, u0, u1, u2, u3, u4, u5, u6, u7⟩ := h1.cells
      (try clear H)
      have H := Lib.hid h1
      clear h1
      go_wp2_with (first
        | (go_at_call 136; refine (HRU.out _ HE).mono ?_; rintro e w0 ⟨rfl, h0⟩; have h1 := EnvR.new h0 s rd ra rb false rmb fi ft; (try clear c0 c1 c2 o0 o1 o2 o3 o4 o5 o6 u0 u1 u2 u3 u4 u5 u6 u7); obtain ⟨c0, c1, c2, o0, o1, o2, o3, o4, o5, o6, u0, u1, u2, u3, u4, u5, u6, u7⟩ := h1.cells; (try clear H); have H := Lib.hid h1; clear h1; clear h0)
        | (go_at_call 137; refine (HR.out _ _ _ _ _ H.out).mono ?_; rintro e w1 ⟨rfl, h1⟩; (try rw [h_1]); (try rw [h_2]); (try rw [h_3]); (try clear c0 c1 c2 o0 o1 o2 o3 o4 o5 o6 u0 u1 u2 u3 u4 u5 u6 u7); obtain ⟨c0, c1, c2, o0, o1, o2, o3, o4, o5, o6, u0, u1, u2, u3, u4, u5, u6, u7⟩ := h1.cells; (try clear H); have H := Lib.hid h1; clear h1)
        | (go_at_call 138; refine (HC.out _ _ H.out).mono ?_; rintro e w2 ⟨rfl, h1⟩; (try clear c0 c1 c2 o0 o1 o2 o3 o4 o5 o6 u0 u1 u2 u3 u4 u5 u6 u7); obtain ⟨c0, c1, c2, o0, o1, o2, o3, o4, o5, o6, u0, u1, u2, u3, u4, u5, u6, u7⟩ := h1.cells; (try clear H); have H := Lib.hid h1; clear h1)
        | (go_at_call 140; refine (HB.out _ _ H.out).mono ?_; rintro e w3 ⟨rfl, h1⟩; (try clear c0 c1 c2 o0 o1 o2 o3 o4 o5 o6 u0 u1 u2 u3 u4 u5 u6 u7); obtain ⟨c0, c1, c2, o0, o1, o2, o3, o4, o5, o6, u0, u1, u2, u3, u4, u5, u6, u7⟩ := h1.cells; (try clear H); have H := Lib.hid h1; clear h1))
      go_ret
      exact ⟨rfl, H.out.e.below⟩
    · have hpos : (0 : Int) < (na : Int) := by omega
      clear h0 hf
      have HE := EnvO.new w R sl st k d a b imm text AA na ac args hA hK
      go_enter Tryz.func120, Tryz.ntmps120
      go_wp2_with (first
        | (go_at_call 136; refine (HRU.out _ HE).mono ?_; rintro e w0 ⟨rfl, h0⟩; have h1 := EnvR.new h0 s rd ra rb false rmb fi ft; (try clear c0 c1 c2 o0 o1 o2 o3 o4 o5 o6 u0 u1 u2 u3 u4 u5 u6 u7); obtain ⟨c0, c1, c2, o0, o1, o2, o3, o4, o5, o6, u0, u1, u2, u3, u4, u5, u6, u7⟩ := h1.cells; (try clear H); have H := Lib.hid h1; clear h1; clear h0)
        | (go_at_call 137; refine (HR.out _ _ _ _ _ H.out).mono ?_; rintro e w1 ⟨rfl, h1⟩; (try rw [h_1]); (try rw [h_2]); (try rw [h_3]); (try clear c0 c1 c2 o0 o1 o2 o3 o4 o5 o6 u0 u1 u2 u3 u4 u5 u6 u7); obtain ⟨c0, c1, c2, o0, o1, o2, o3, o4, o5, o6, u0, u1, u2, u3, u4, u5, u6, u7⟩ := h1.cells; (try clear H); have H := Lib.hid h1; clear h1)
        | (go_at_call 138; refine (HC.out _ _ H.out).mono ?_; rintro e w2 ⟨rfl, h1⟩; (try clear c0 c1 c2 o0 o1 o2 o3 o4 o5 o6 u0 u1 u2 u3 u4 u5 u6 u7); obtain ⟨c0, c1, c2, o0, o1, o2, o3, o4, o5, o6, u0, u1, u2, u3, u4, u5, u6, u7⟩ := h1.cells; (try clear H); have H := Lib.hid h1; clear h1)
        | (go_at_call 140; refine (HB.out _ _ H.out).mono ?_; rintro e w3 ⟨rfl, h1⟩; (try clear c0 c1 c2 o0 o1 o2 o3 o4 o5 o6 u0 u1 u2 u3 u4 u5 u6 u7); obtain ⟨c0, c1, c2, o0, o1, o2, o3, o4, o5, o6, u0, u1, u2, u3, u4, u5, u6, u7⟩ := h1.cells; (try clear H); have H := Lib.hid h1; clear h1))
      refine (HI.out _ _ H.out).mono ?_
      rintro e w4 ⟨rfl, h1⟩
      (try clear c0 c1 c2 o0 o1 o2 o3 o4 o5 o6 u0 u1 u2 u3 u4 u5 u6 u7)
      obtain ⟨c0, c1, c2, o0, o1, o2, o3, o4, o5, o6, u0, u1, u2, u3, u4, u5, u6, u7⟩ := h1.cells
      (try clear H)
      have H := Lib.hid h1
      clear h1
      go_wp2_with (first
        | (go_at_call 136; refine (HRU.out _ HE).mono ?_; rintro e w0 ⟨rfl, h0⟩; have h1 := EnvR.new h0 s rd ra rb false rmb fi ft; (try clear c0 c1 c2 o0 o1 o2 o3 o4 o5 o6 u0 u1 u2 u3 u4 u5 u6 u7); obtain ⟨c0, c1, c2, o0, o1, o2, o3, o4, o5, o6, u0, u1, u2, u3, u4, u5, u6, u7⟩ := h1.cells; (try clear H); have H := Lib.hid h1; clear h1; clear h0)
        | (go_at_call 137; refine (HR.out _ _ _ _ _ H.out).mono ?_; rintro e w1 ⟨rfl, h1⟩; (try rw [h_1]); (try rw [h_2]); (try rw [h_3]); (try clear c0 c1 c2 o0 o1 o2 o3 o4 o5 o6 u0 u1 u2 u3 u4 u5 u6 u7); obtain ⟨c0, c1, c2, o0, o1, o2, o3, o4, o5, o6, u0, u1, u2, u3, u4, u5, u6, u7⟩ := h1.cells; (try clear H); have H := Lib.hid h1; clear h1)
        | (go_at_call 138; refine (HC.out _ _ H.out).mono ?_; rintro e w2 ⟨rfl, h1⟩; (try clear c0 c1 c2 o0 o1 o2 o3 o4 o5 o6 u0 u1 u2 u3 u4 u5 u6 u7); obtain ⟨c0, c1, c2, o0, o1, o2, o3, o4, o5, o6, u0, u1, u2, u3, u4, u5, u6, u7⟩ := h1.cells; (try clear H); have H := Lib.hid h1; clear h1)
        | (go_at_call 140; refine (HB.out _ _ H.out).mono ?_; rintro e w3 ⟨rfl, h1⟩; (try clear c0 c1 c2 o0 o1 o2 o3 o4 o5 o6 u0 u1 u2 u3 u4 u5 u6 u7); obtain ⟨c0, c1, c2, o0, o1, o2, o3, o4, o5, o6, u0, u1, u2, u3, u4, u5, u6, u7⟩ := h1.cells; (try clear H); have H := Lib.hid h1; clear h1))
      refine (HT.out _ _ H.out).mono ?_
      rintro e w4 ⟨rfl, h1⟩
      (try clear c0 c1 c2 o0 o1 o2 o3 o4 o5 o6 u0 u1 u2 u3 u4 u5 u6 u7)
      obtain ⟨c0, c1, c2, o0, o1, o2, o3, o4, o5, o6, u0, u1, u2, u3, u4, u5, u6, u7⟩ := h1.cells
      (try clear H)
      have H := Lib.hid h1
      clear h1
      go_wp2_with (first
        | (go_at_call 136; refine (HRU.out _ HE).mono ?_; rintro e w0 ⟨rfl, h0⟩; have h1 := EnvR.new h0 s rd ra rb false rmb fi ft; (try clear c0 c1 c2 o0 o1 o2 o3 o4 o5 o6 u0 u1 u2 u3 u4 u5 u6 u7); obtain ⟨c0, c1, c2, o0, o1, o2, o3, o4, o5, o6, u0, u1, u2, u3, u4, u5, u6, u7⟩ := h1.cells; (try clear H); have H := Lib.hid h1; clear h1; clear h0)
        | (go_at_call 137; refine (HR.out _ _ _ _ _ H.out).mono ?_; rintro e w1 ⟨rfl, h1⟩; (try rw [h_1]); (try rw [h_2]); (try rw [h_3]); (try clear c0 c1 c2 o0 o1 o2 o3 o4 o5 o6 u0 u1 u2 u3 u4 u5 u6 u7); obtain ⟨c0, c1, c2, o0, o1, o2, o3, o4, o5, o6, u0, u1, u2, u3, u4, u5, u6, u7⟩ := h1.cells; (try clear H); have H := Lib.hid h1; clear h1)
        | (go_at_call 138; refine (HC.out _ _ H.out).mono ?_; rintro e w2 ⟨rfl, h1⟩; (try clear c0 c1 c2 o0 o1 o2 o3 o4 o5 o6 u0 u1 u2 u3 u4 u5 u6 u7); obtain ⟨c0, c1, c2, o0, o1, o2, o3, o4, o5, o6, u0, u1, u2, u3, u4, u5, u6, u7⟩ := h1.cells; (try clear H); have H := Lib.hid h1; clear h1)
        | (go_at_call 140; refine (HB.out _ _ H.out).mono ?_; rintro e w3 ⟨rfl, h1⟩; (try clear c0 c1 c2 o0 o1 o2 o3 o4 o5 o6 u0 u1 u2 u3 u4 u5 u6 u7); obtain ⟨c0, c1, c2, o0, o1, o2, o3, o4, o5, o6, u0, u1, u2, u3, u4, u5, u6, u7⟩ := h1.cells; (try clear H); have H := Lib.hid h1; clear h1))
      go_ret
      exact ⟨rfl, H.out.e.below⟩
set_option maxRecDepth 20000 in
set_option maxHeartbeats 40000000 in
theorem op_last (hK : KeysIn w) (hA : Rd w w.heap.size AA (ints args)) (HRU : Hid (RuleO w R sl st k d a b imm text AA na ac args s rd ra rb rar rmb fi ft))
    (HR : Hid (∀ r u m V, AtO w R sl st k d a b imm text AA na ac args V s rd ra rb rar rmb fi ft 137 #[.agg #[.int .i64 R, .int .i64 sl, .int .i64 st], .int .i64 r, .bool u, .bool m] (.bool (regB R r u m)))) (heni : ∀ xs W, (callFunc fi xs).run Tryz.prog W = .ok (.enter fi xs) W) (hent : ∀ xs W, (callFunc ft xs).run Tryz.prog W = .ok (.enter ft xs) W)
    (HI : Hid (∀ V, AtO w R sl st k d a b imm text AA na ac args V s rd ra rb rar rmb fi ft fi #[.int .i64 imm] (.bool true))) (HT : Hid (∀ V, AtO w R sl st k d a b imm text AA na ac args V s rd ra rb rar rmb fi ft ft #[.string text] (.bool true)))
    (HC : Hid (∀ V, AtO w R sl st k d a b imm text AA na ac args V s rd ra rb rar rmb fi ft 138 #[.slice AA na ac, .func (.func 139) #[] #[.pointer (some ⟨w.heap.size, 0, none⟩)]] (.bool false)))
    (HB : Hid (∀ V, AtO w R sl st k d a b imm text AA na ac args V s rd ra rb rar rmb fi ft 140 #[.string text] (.tuple #[.int .i64 bi, .bool ba, .bool bo])))
    (h_1 : regB R d rd rmb = true) (h_2 : regB R a ra false = true) (h_3 : regB R b rb false = true) (hz : rar = true ∨ rar = false ∧ ¬ (0 : Int) < (na : Int)) :
    Calls Tryz.prog 120 #[.agg #[.int .i64 R, .int .i64 sl, .int .i64 st], .agg #[.int .i64 k, .int .i64 d, .int .i64 a, .int .i64 b, .int .i64 imm, .string text, .slice AA na ac]] w fun e w' => e = .returned (.bool (if k = 21 then decide (imm < sl) else if k = 23 then decide (imm < st) else if k = 29 then decide ((na : Int) = bi) && (ba || decide (d = -1)) else true)) ∧ Below w.heap.size w w' := by
  rcases hz with rfl | ⟨rfl, hz⟩
  · skip
    by_cases k21 : k = 21
    · subst k21
      rw [if_pos rfl]
      have HE := EnvO.new w R sl st 21 d a b imm text AA na ac args hA hK
      go_enter Tryz.func120, Tryz.ntmps120
      go_wp2_with (first
        | (go_at_call 136; refine (HRU.out _ HE).mono ?_; rintro e w0 ⟨rfl, h0⟩; have h1 := EnvR.new h0 s rd ra rb true rmb fi ft; (try clear c0 c1 c2 o0 o1 o2 o3 o4 o5 o6 u0 u1 u2 u3 u4 u5 u6 u7); obtain ⟨c0, c1, c2, o0, o1, o2, o3, o4, o5, o6, u0, u1, u2, u3, u4, u5, u6, u7⟩ := h1.cells; (try clear H); have H := Lib.hid h1; clear h1; clear h0)
        | (go_at_call 137; refine (HR.out _ _ _ _ _ H.out).mono ?_; rintro e w1 ⟨rfl, h1⟩; (try rw [h_1]); (try rw [h_2]); (try rw [h_3]); (try clear c0 c1 c2 o0 o1 o2 o3 o4 o5 o6 u0 u1 u2 u3 u4 u5 u6 u7); obtain ⟨c0, c1, c2, o0, o1, o2, o3, o4, o5, o6, u0, u1, u2, u3, u4, u5, u6, u7⟩ := h1.cells; (try clear H); have H := Lib.hid h1; clear h1)
        | (go_at_call 138; refine (HC.out _ _ H.out).mono ?_; rintro e w2 ⟨rfl, h1⟩; (try clear c0 c1 c2 o0 o1 o2 o3 o4 o5 o6 u0 u1 u2 u3 u4 u5 u6 u7); obtain ⟨c0, c1, c2, o0, o1, o2, o3, o4, o5, o6, u0, u1, u2, u3, u4, u5, u6, u7⟩ := h1.cells; (try clear H); have H := Lib.hid h1; clear h1)
        | (go_at_call 140; refine (HB.out _ _ H.out).mono ?_; rintro e w3 ⟨rfl, h1⟩; (try clear c0 c1 c2 o0 o1 o2 o3 o4 o5 o6 u0 u1 u2 u3 u4 u5 u6 u7); obtain ⟨c0, c1, c2, o0, o1, o2, o3, o4, o5, o6, u0, u1, u2, u3, u4, u5, u6, u7⟩ := h1.cells; (try clear H); have H := Lib.hid h1; clear h1))
      refine (HI.out _ _ H.out).mono ?_
      rintro e w4 ⟨rfl, h1⟩
      (try clear c0 c1 c2 o0 o1 o2 o3 o4 o5 o6 u0 u1 u2 u3 u4 u5 u6 u7)
      obtain ⟨c0, c1, c2, o0, o1, o2, o3, o4, o5, o6, u0, u1, u2, u3, u4, u5, u6, u7⟩ := h1.cells
      (try clear H)
      have H := Lib.hid h1
      clear h1
      go_wp2_with (first
        | (go_at_call 136; refine (HRU.out _ HE).mono ?_; rintro e w0 ⟨rfl, h0⟩; have h1 := EnvR.new h0 s rd ra rb true rmb fi ft; (try clear c0 c1 c2 o0 o1 o2 o3 o4 o5 o6 u0 u1 u2 u3 u4 u5 u6 u7); obtain ⟨c0, c1, c2, o0, o1, o2, o3, o4, o5, o6, u0, u1, u2, u3, u4, u5, u6, u7⟩ := h1.cells; (try clear H); have H := Lib.hid h1; clear h1; clear h0)
        | (go_at_call 137; refine (HR.out _ _ _ _ _ H.out).mono ?_; rintro e w1 ⟨rfl, h1⟩; (try rw [h_1]); (try rw [h_2]); (try rw [h_3]); (try clear c0 c1 c2 o0 o1 o2 o3 o4 o5 o6 u0 u1 u2 u3 u4 u5 u6 u7); obtain ⟨c0, c1, c2, o0, o1, o2, o3, o4, o5, o6, u0, u1, u2, u3, u4, u5, u6, u7⟩ := h1.cells; (try clear H); have H := Lib.hid h1; clear h1)
        | (go_at_call 138; refine (HC.out _ _ H.out).mono ?_; rintro e w2 ⟨rfl, h1⟩; (try clear c0 c1 c2 o0 o1 o2 o3 o4 o5 o6 u0 u1 u2 u3 u4 u5 u6 u7); obtain ⟨c0, c1, c2, o0, o1, o2, o3, o4, o5, o6, u0, u1, u2, u3, u4, u5, u6, u7⟩ := h1.cells; (try clear H); have H := Lib.hid h1; clear h1)
        | (go_at_call 140; refine (HB.out _ _ H.out).mono ?_; rintro e w3 ⟨rfl, h1⟩; (try clear c0 c1 c2 o0 o1 o2 o3 o4 o5 o6 u0 u1 u2 u3 u4 u5 u6 u7); obtain ⟨c0, c1, c2, o0, o1, o2, o3, o4, o5, o6, u0, u1, u2, u3, u4, u5, u6, u7⟩ := h1.cells; (try clear H); have H := Lib.hid h1; clear h1))
      refine (HT.out _ _ H.out).mono ?_
      rintro e w4 ⟨rfl, h1⟩
      (try clear c0 c1 c2 o0 o1 o2 o3 o4 o5 o6 u0 u1 u2 u3 u4 u5 u6 u7)
      obtain ⟨c0, c1, c2, o0, o1, o2, o3, o4, o5, o6, u0, u1, u2, u3, u4, u5, u6, u7⟩ := h1.cells
      (try clear H)
      have H := Lib.hid h1
      clear h1
      go_wp2_with (first
        | (go_at_call 136; refine (HRU.out _ HE).mono ?_; rintro e w0 ⟨rfl, h0⟩; have h1 := EnvR.new h0 s rd ra rb true rmb fi ft; (try clear c0 c1 c2 o0 o1 o2 o3 o4 o5 o6 u0 u1 u2 u3 u4 u5 u6 u7); obtain ⟨c0, c1, c2, o0, o1, o2, o3, o4, o5, o6, u0, u1, u2, u3, u4, u5, u6, u7⟩ := h1.cells; (try clear H); have H := Lib.hid h1; clear h1; clear h0)
        | (go_at_call 137; refine (HR.out _ _ _ _ _ H.out).mono ?_; rintro e w1 ⟨rfl, h1⟩; (try rw [h_1]); (try rw [h_2]); (try rw [h_3]); (try clear c0 c1 c2 o0 o1 o2 o3 o4 o5 o6 u0 u1 u2 u3 u4 u5 u6 u7); obtain ⟨c0, c1, c2, o0, o1, o2, o3, o4, o5, o6, u0, u1, u2, u3, u4, u5, u6, u7⟩ := h1.cells; (try clear H); have H := Lib.hid h1; clear h1)
        | (go_at_call 138; refine (HC.out _ _ H.out).mono ?_; rintro e w2 ⟨rfl, h1⟩; (try clear c0 c1 c2 o0 o1 o2 o3 o4 o5 o6 u0 u1 u2 u3 u4 u5 u6 u7); obtain ⟨c0, c1, c2, o0, o1, o2, o3, o4, o5, o6, u0, u1, u2, u3, u4, u5, u6, u7⟩ := h1.cells; (try clear H); have H := Lib.hid h1; clear h1)
        | (go_at_call 140; refine (HB.out _ _ H.out).mono ?_; rintro e w3 ⟨rfl, h1⟩; (try clear c0 c1 c2 o0 o1 o2 o3 o4 o5 o6 u0 u1 u2 u3 u4 u5 u6 u7); obtain ⟨c0, c1, c2, o0, o1, o2, o3, o4, o5, o6, u0, u1, u2, u3, u4, u5, u6, u7⟩ := h1.cells; (try clear H); have H := Lib.hid h1; clear h1))
      go_ret
      exact ⟨rfl, H.out.e.below⟩
    · rw [if_neg k21]
      by_cases k23 : k = 23
      · subst k23
        rw [if_pos rfl]
        clear k21
        have HE := EnvO.new w R sl st 23 d a b imm text AA na ac args hA hK
        go_enter Tryz.func120, Tryz.ntmps120
        go_wp2_with (first
          | (go_at_call 136; refine (HRU.out _ HE).mono ?_; rintro e w0 ⟨rfl, h0⟩; have h1 := EnvR.new h0 s rd ra rb true rmb fi ft; (try clear c0 c1 c2 o0 o1 o2 o3 o4 o5 o6 u0 u1 u2 u3 u4 u5 u6 u7); obtain ⟨c0, c1, c2, o0, o1, o2, o3, o4, o5, o6, u0, u1, u2, u3, u4, u5, u6, u7⟩ := h1.cells; (try clear H); have H := Lib.hid h1; clear h1; clear h0)
          | (go_at_call 137; refine (HR.out _ _ _ _ _ H.out).mono ?_; rintro e w1 ⟨rfl, h1⟩; (try rw [h_1]); (try rw [h_2]); (try rw [h_3]); (try clear c0 c1 c2 o0 o1 o2 o3 o4 o5 o6 u0 u1 u2 u3 u4 u5 u6 u7); obtain ⟨c0, c1, c2, o0, o1, o2, o3, o4, o5, o6, u0, u1, u2, u3, u4, u5, u6, u7⟩ := h1.cells; (try clear H); have H := Lib.hid h1; clear h1)
          | (go_at_call 138; refine (HC.out _ _ H.out).mono ?_; rintro e w2 ⟨rfl, h1⟩; (try clear c0 c1 c2 o0 o1 o2 o3 o4 o5 o6 u0 u1 u2 u3 u4 u5 u6 u7); obtain ⟨c0, c1, c2, o0, o1, o2, o3, o4, o5, o6, u0, u1, u2, u3, u4, u5, u6, u7⟩ := h1.cells; (try clear H); have H := Lib.hid h1; clear h1)
          | (go_at_call 140; refine (HB.out _ _ H.out).mono ?_; rintro e w3 ⟨rfl, h1⟩; (try clear c0 c1 c2 o0 o1 o2 o3 o4 o5 o6 u0 u1 u2 u3 u4 u5 u6 u7); obtain ⟨c0, c1, c2, o0, o1, o2, o3, o4, o5, o6, u0, u1, u2, u3, u4, u5, u6, u7⟩ := h1.cells; (try clear H); have H := Lib.hid h1; clear h1))
        refine (HI.out _ _ H.out).mono ?_
        rintro e w4 ⟨rfl, h1⟩
        (try clear c0 c1 c2 o0 o1 o2 o3 o4 o5 o6 u0 u1 u2 u3 u4 u5 u6 u7)
        obtain ⟨c0, c1, c2, o0, o1, o2, o3, o4, o5, o6, u0, u1, u2, u3, u4, u5, u6, u7⟩ := h1.cells
        (try clear H)
        have H := Lib.hid h1
        clear h1
        go_wp2_with (first
          | (go_at_call 136; refine (HRU.out _ HE).mono ?_; rintro e w0 ⟨rfl, h0⟩; have h1 := EnvR.new h0 s rd ra rb true rmb fi ft; (try clear c0 c1 c2 o0 o1 o2 o3 o4 o5 o6 u0 u1 u2 u3 u4 u5 u6 u7); obtain ⟨c0, c1, c2, o0, o1, o2, o3, o4, o5, o6, u0, u1, u2, u3, u4, u5, u6, u7⟩ := h1.cells; (try clear H); have H := Lib.hid h1; clear h1; clear h0)
          | (go_at_call 137; refine (HR.out _ _ _ _ _ H.out).mono ?_; rintro e w1 ⟨rfl, h1⟩; (try rw [h_1]); (try rw [h_2]); (try rw [h_3]); (try clear c0 c1 c2 o0 o1 o2 o3 o4 o5 o6 u0 u1 u2 u3 u4 u5 u6 u7); obtain ⟨c0, c1, c2, o0, o1, o2, o3, o4, o5, o6, u0, u1, u2, u3, u4, u5, u6, u7⟩ := h1.cells; (try clear H); have H := Lib.hid h1; clear h1)
          | (go_at_call 138; refine (HC.out _ _ H.out).mono ?_; rintro e w2 ⟨rfl, h1⟩; (try clear c0 c1 c2 o0 o1 o2 o3 o4 o5 o6 u0 u1 u2 u3 u4 u5 u6 u7); obtain ⟨c0, c1, c2, o0, o1, o2, o3, o4, o5, o6, u0, u1, u2, u3, u4, u5, u6, u7⟩ := h1.cells; (try clear H); have H := Lib.hid h1; clear h1)
          | (go_at_call 140; refine (HB.out _ _ H.out).mono ?_; rintro e w3 ⟨rfl, h1⟩; (try clear c0 c1 c2 o0 o1 o2 o3 o4 o5 o6 u0 u1 u2 u3 u4 u5 u6 u7); obtain ⟨c0, c1, c2, o0, o1, o2, o3, o4, o5, o6, u0, u1, u2, u3, u4, u5, u6, u7⟩ := h1.cells; (try clear H); have H := Lib.hid h1; clear h1))
        refine (HT.out _ _ H.out).mono ?_
        rintro e w4 ⟨rfl, h1⟩
        (try clear c0 c1 c2 o0 o1 o2 o3 o4 o5 o6 u0 u1 u2 u3 u4 u5 u6 u7)
        obtain ⟨c0, c1, c2, o0, o1, o2, o3, o4, o5, o6, u0, u1, u2, u3, u4, u5, u6, u7⟩ := h1.cells
        (try clear H)
        have H := Lib.hid h1
        clear h1
        go_wp2_with (first
          | (go_at_call 136; refine (HRU.out _ HE).mono ?_; rintro e w0 ⟨rfl, h0⟩; have h1 := EnvR.new h0 s rd ra rb true rmb fi ft; (try clear c0 c1 c2 o0 o1 o2 o3 o4 o5 o6 u0 u1 u2 u3 u4 u5 u6 u7); obtain ⟨c0, c1, c2, o0, o1, o2, o3, o4, o5, o6, u0, u1, u2, u3, u4, u5, u6, u7⟩ := h1.cells; (try clear H); have H := Lib.hid h1; clear h1; clear h0)
          | (go_at_call 137; refine (HR.out _ _ _ _ _ H.out).mono ?_; rintro e w1 ⟨rfl, h1⟩; (try rw [h_1]); (try rw [h_2]); (try rw [h_3]); (try clear c0 c1 c2 o0 o1 o2 o3 o4 o5 o6 u0 u1 u2 u3 u4 u5 u6 u7); obtain ⟨c0, c1, c2, o0, o1, o2, o3, o4, o5, o6, u0, u1, u2, u3, u4, u5, u6, u7⟩ := h1.cells; (try clear H); have H := Lib.hid h1; clear h1)
          | (go_at_call 138; refine (HC.out _ _ H.out).mono ?_; rintro e w2 ⟨rfl, h1⟩; (try clear c0 c1 c2 o0 o1 o2 o3 o4 o5 o6 u0 u1 u2 u3 u4 u5 u6 u7); obtain ⟨c0, c1, c2, o0, o1, o2, o3, o4, o5, o6, u0, u1, u2, u3, u4, u5, u6, u7⟩ := h1.cells; (try clear H); have H := Lib.hid h1; clear h1)
          | (go_at_call 140; refine (HB.out _ _ H.out).mono ?_; rintro e w3 ⟨rfl, h1⟩; (try clear c0 c1 c2 o0 o1 o2 o3 o4 o5 o6 u0 u1 u2 u3 u4 u5 u6 u7); obtain ⟨c0, c1, c2, o0, o1, o2, o3, o4, o5, o6, u0, u1, u2, u3, u4, u5, u6, u7⟩ := h1.cells; (try clear H); have H := Lib.hid h1; clear h1))
        go_ret
        exact ⟨rfl, H.out.e.below⟩
      · rw [if_neg k23]
        by_cases k29 : k = 29
        · subst k29
          rw [if_pos rfl]
          clear k21 k23
          by_cases hn : (na : Int) = bi
          · rw [decide_eq_true hn]
            have qn : ((na : Int) == bi) = true := by simpa using hn
            clear hn
            cases ba with
            | true =>
              have HE := EnvO.new w R sl st 29 d a b imm text AA na ac args hA hK
              go_enter Tryz.func120, Tryz.ntmps120
              go_wp2_with (first
                | (go_at_call 136; refine (HRU.out _ HE).mono ?_; rintro e w0 ⟨rfl, h0⟩; have h1 := EnvR.new h0 s rd ra rb true rmb fi ft; (try clear c0 c1 c2 o0 o1 o2 o3 o4 o5 o6 u0 u1 u2 u3 u4 u5 u6 u7); obtain ⟨c0, c1, c2, o0, o1, o2, o3, o4, o5, o6, u0, u1, u2, u3, u4, u5, u6, u7⟩ := h1.cells; (try clear H); have H := Lib.hid h1; clear h1; clear h0)
                | (go_at_call 137; refine (HR.out _ _ _ _ _ H.out).mono ?_; rintro e w1 ⟨rfl, h1⟩; (try rw [h_1]); (try rw [h_2]); (try rw [h_3]); (try clear c0 c1 c2 o0 o1 o2 o3 o4 o5 o6 u0 u1 u2 u3 u4 u5 u6 u7); obtain ⟨c0, c1, c2, o0, o1, o2, o3, o4, o5, o6, u0, u1, u2, u3, u4, u5, u6, u7⟩ := h1.cells; (try clear H); have H := Lib.hid h1; clear h1)
                | (go_at_call 138; refine (HC.out _ _ H.out).mono ?_; rintro e w2 ⟨rfl, h1⟩; (try clear c0 c1 c2 o0 o1 o2 o3 o4 o5 o6 u0 u1 u2 u3 u4 u5 u6 u7); obtain ⟨c0, c1, c2, o0, o1, o2, o3, o4, o5, o6, u0, u1, u2, u3, u4, u5, u6, u7⟩ := h1.cells; (try clear H); have H := Lib.hid h1; clear h1)
                | (go_at_call 140; refine (HB.out _ _ H.out).mono ?_; rintro e w3 ⟨rfl, h1⟩; (try clear c0 c1 c2 o0 o1 o2 o3 o4 o5 o6 u0 u1 u2 u3 u4 u5 u6 u7); obtain ⟨c0, c1, c2, o0, o1, o2, o3, o4, o5, o6, u0, u1, u2, u3, u4, u5, u6, u7⟩ := h1.cells; (try clear H); have H := Lib.hid h1; clear h1))
              refine (HI.out _ _ H.out).mono ?_
              rintro e w4 ⟨rfl, h1⟩
              (try clear c0 c1 c2 o0 o1 o2 o3 o4 o5 o6 u0 u1 u2 u3 u4 u5 u6 u7)
              obtain ⟨c0, c1, c2, o0, o1, o2, o3, o4, o5, o6, u0, u1, u2, u3, u4, u5, u6, u7⟩ := h1.cells
              (try clear H)
              have H := Lib.hid h1
              clear h1
              go_wp2_with (first
                | (go_at_call 136; refine (HRU.out _ HE).mono ?_; rintro e w0 ⟨rfl, h0⟩; have h1 := EnvR.new h0 s rd ra rb true rmb fi ft; (try clear c0 c1 c2 o0 o1 o2 o3 o4 o5 o6 u0 u1 u2 u3 u4 u5 u6 u7); obtain ⟨c0, c1, c2, o0, o1, o2, o3, o4, o5, o6, u0, u1, u2, u3, u4, u5, u6, u7⟩ := h1.cells; (try clear H); have H := Lib.hid h1; clear h1; clear h0)
                | (go_at_call 137; refine (HR.out _ _ _ _ _ H.out).mono ?_; rintro e w1 ⟨rfl, h1⟩; (try rw [h_1]); (try rw [h_2]); (try rw [h_3]); (try clear c0 c1 c2 o0 o1 o2 o3 o4 o5 o6 u0 u1 u2 u3 u4 u5 u6 u7); obtain ⟨c0, c1, c2, o0, o1, o2, o3, o4, o5, o6, u0, u1, u2, u3, u4, u5, u6, u7⟩ := h1.cells; (try clear H); have H := Lib.hid h1; clear h1)
                | (go_at_call 138; refine (HC.out _ _ H.out).mono ?_; rintro e w2 ⟨rfl, h1⟩; (try clear c0 c1 c2 o0 o1 o2 o3 o4 o5 o6 u0 u1 u2 u3 u4 u5 u6 u7); obtain ⟨c0, c1, c2, o0, o1, o2, o3, o4, o5, o6, u0, u1, u2, u3, u4, u5, u6, u7⟩ := h1.cells; (try clear H); have H := Lib.hid h1; clear h1)
                | (go_at_call 140; refine (HB.out _ _ H.out).mono ?_; rintro e w3 ⟨rfl, h1⟩; (try clear c0 c1 c2 o0 o1 o2 o3 o4 o5 o6 u0 u1 u2 u3 u4 u5 u6 u7); obtain ⟨c0, c1, c2, o0, o1, o2, o3, o4, o5, o6, u0, u1, u2, u3, u4, u5, u6, u7⟩ := h1.cells; (try clear H); have H := Lib.hid h1; clear h1))
              refine (HT.out _ _ H.out).mono ?_
              rintro e w4 ⟨rfl, h1⟩
              (try clear c0 c1 c2 o0 o1 o2 o3 o4 o5 o6 u0 u1 u2 u3 u4 u5 u6 u7)
              obtain ⟨c0, c1, c2, o0, o1, o2, o3, o4, o5, o6, u0, u1, u2, u3, u4, u5, u6, u7⟩ := h1.cells
              (try clear H)
              have H := Lib.hid h1
              clear h1
              go_wp2_with (first
                | (go_at_call 136; refine (HRU.out _ HE).mono ?_; rintro e w0 ⟨rfl, h0⟩; have h1 := EnvR.new h0 s rd ra rb true rmb fi ft; (try clear c0 c1 c2 o0 o1 o2 o3 o4 o5 o6 u0 u1 u2 u3 u4 u5 u6 u7); obtain ⟨c0, c1, c2, o0, o1, o2, o3, o4, o5, o6, u0, u1, u2, u3, u4, u5, u6, u7⟩ := h1.cells; (try clear H); have H := Lib.hid h1; clear h1; clear h0)
                | (go_at_call 137; refine (HR.out _ _ _ _ _ H.out).mono ?_; rintro e w1 ⟨rfl, h1⟩; (try rw [h_1]); (try rw [h_2]); (try rw [h_3]); (try clear c0 c1 c2 o0 o1 o2 o3 o4 o5 o6 u0 u1 u2 u3 u4 u5 u6 u7); obtain ⟨c0, c1, c2, o0, o1, o2, o3, o4, o5, o6, u0, u1, u2, u3, u4, u5, u6, u7⟩ := h1.cells; (try clear H); have H := Lib.hid h1; clear h1)
                | (go_at_call 138; refine (HC.out _ _ H.out).mono ?_; rintro e w2 ⟨rfl, h1⟩; (try clear c0 c1 c2 o0 o1 o2 o3 o4 o5 o6 u0 u1 u2 u3 u4 u5 u6 u7); obtain ⟨c0, c1, c2, o0, o1, o2, o3, o4, o5, o6, u0, u1, u2, u3, u4, u5, u6, u7⟩ := h1.cells; (try clear H); have H := Lib.hid h1; clear h1)
                | (go_at_call 140; refine (HB.out _ _ H.out).mono ?_; rintro e w3 ⟨rfl, h1⟩; (try clear c0 c1 c2 o0 o1 o2 o3 o4 o5 o6 u0 u1 u2 u3 u4 u5 u6 u7); obtain ⟨c0, c1, c2, o0, o1, o2, o3, o4, o5, o6, u0, u1, u2, u3, u4, u5, u6, u7⟩ := h1.cells; (try clear H); have H := Lib.hid h1; clear h1))
              go_ret
              exact ⟨rfl, H.out.e.below⟩
            | false =>
              by_cases hd : d = -1
              · rw [decide_eq_true hd]
                have qd : (d == -1) = true := by simpa using hd
                clear hd
                have HE := EnvO.new w R sl st 29 d a b imm text AA na ac args hA hK
                go_enter Tryz.func120, Tryz.ntmps120
                go_wp2_with (first
                  | (go_at_call 136; refine (HRU.out _ HE).mono ?_; rintro e w0 ⟨rfl, h0⟩; have h1 := EnvR.new h0 s rd ra rb true rmb fi ft; (try clear c0 c1 c2 o0 o1 o2 o3 o4 o5 o6 u0 u1 u2 u3 u4 u5 u6 u7); obtain ⟨c0, c1, c2, o0, o1, o2, o3, o4, o5, o6, u0, u1, u2, u3, u4, u5, u6, u7⟩ := h1.cells; (try clear H); have H := Lib.hid h1; clear h1; clear h0)
                  | (go_at_call 137; refine (HR.out _ _ _ _ _ H.out).mono ?_; rintro e w1 ⟨rfl, h1⟩; (try rw [h_1]); (try rw [h_2]); (try rw [h_3]); (try clear c0 c1 c2 o0 o1 o2 o3 o4 o5 o6 u0 u1 u2 u3 u4 u5 u6 u7); obtain ⟨c0, c1, c2, o0, o1, o2, o3, o4, o5, o6, u0, u1, u2, u3, u4, u5, u6, u7⟩ := h1.cells; (try clear H); have H := Lib.hid h1; clear h1)
                  | (go_at_call 138; refine (HC.out _ _ H.out).mono ?_; rintro e w2 ⟨rfl, h1⟩; (try clear c0 c1 c2 o0 o1 o2 o3 o4 o5 o6 u0 u1 u2 u3 u4 u5 u6 u7); obtain ⟨c0, c1, c2, o0, o1, o2, o3, o4, o5, o6, u0, u1, u2, u3, u4, u5, u6, u7⟩ := h1.cells; (try clear H); have H := Lib.hid h1; clear h1)
                  | (go_at_call 140; refine (HB.out _ _ H.out).mono ?_; rintro e w3 ⟨rfl, h1⟩; (try clear c0 c1 c2 o0 o1 o2 o3 o4 o5 o6 u0 u1 u2 u3 u4 u5 u6 u7); obtain ⟨c0, c1, c2, o0, o1, o2, o3, o4, o5, o6, u0, u1, u2, u3, u4, u5, u6, u7⟩ := h1.cells; (try clear H); have H := Lib.hid h1; clear h1))
                refine (HI.out _ _ H.out).mono ?_
                rintro e w4 ⟨rfl, h1⟩
                (try clear c0 c1 c2 o0 o1 o2 o3 o4 o5 o6 u0 u1 u2 u3 u4 u5 u6 u7)
                obtain ⟨c0, c1, c2, o0, o1, o2, o3, o4, o5, o6, u0, u1, u2, u3, u4, u5, u6, u7⟩ := h1.cells
                (try clear H)
                have H := Lib.hid h1
                clear h1
                go_wp2_with (first
                  | (go_at_call 136; refine (HRU.out _ HE).mono ?_; rintro e w0 ⟨rfl, h0⟩; have h1 := EnvR.new h0 s rd ra rb true rmb fi ft; (try clear c0 c1 c2 o0 o1 o2 o3 o4 o5 o6 u0 u1 u2 u3 u4 u5 u6 u7); obtain ⟨c0, c1, c2, o0, o1, o2, o3, o4, o5, o6, u0, u1, u2, u3, u4, u5, u6, u7⟩ := h1.cells; (try clear H); have H := Lib.hid h1; clear h1; clear h0)
                  | (go_at_call 137; refine (HR.out _ _ _ _ _ H.out).mono ?_; rintro e w1 ⟨rfl, h1⟩; (try rw [h_1]); (try rw [h_2]); (try rw [h_3]); (try clear c0 c1 c2 o0 o1 o2 o3 o4 o5 o6 u0 u1 u2 u3 u4 u5 u6 u7); obtain ⟨c0, c1, c2, o0, o1, o2, o3, o4, o5, o6, u0, u1, u2, u3, u4, u5, u6, u7⟩ := h1.cells; (try clear H); have H := Lib.hid h1; clear h1)
                  | (go_at_call 138; refine (HC.out _ _ H.out).mono ?_; rintro e w2 ⟨rfl, h1⟩; (try clear c0 c1 c2 o0 o1 o2 o3 o4 o5 o6 u0 u1 u2 u3 u4 u5 u6 u7); obtain ⟨c0, c1, c2, o0, o1, o2, o3, o4, o5, o6, u0, u1, u2, u3, u4, u5, u6, u7⟩ := h1.cells; (try clear H); have H := Lib.hid h1; clear h1)
                  | (go_at_call 140; refine (HB.out _ _ H.out).mono ?_; rintro e w3 ⟨rfl, h1⟩; (try clear c0 c1 c2 o0 o1 o2 o3 o4 o5 o6 u0 u1 u2 u3 u4 u5 u6 u7); obtain ⟨c0, c1, c2, o0, o1, o2, o3, o4, o5, o6, u0, u1, u2, u3, u4, u5, u6, u7⟩ := h1.cells; (try clear H); have H := Lib.hid h1; clear h1))
                refine (HT.out _ _ H.out).mono ?_
                rintro e w4 ⟨rfl, h1⟩
                (try clear c0 c1 c2 o0 o1 o2 o3 o4 o5 o6 u0 u1 u2 u3 u4 u5 u6 u7)
                obtain ⟨c0, c1, c2, o0, o1, o2, o3, o4, o5, o6, u0, u1, u2, u3, u4, u5, u6, u7⟩ := h1.cells
                (try clear H)
                have H := Lib.hid h1
                clear h1
                go_wp2_with (first
                  | (go_at_call 136; refine (HRU.out _ HE).mono ?_; rintro e w0 ⟨rfl, h0⟩; have h1 := EnvR.new h0 s rd ra rb true rmb fi ft; (try clear c0 c1 c2 o0 o1 o2 o3 o4 o5 o6 u0 u1 u2 u3 u4 u5 u6 u7); obtain ⟨c0, c1, c2, o0, o1, o2, o3, o4, o5, o6, u0, u1, u2, u3, u4, u5, u6, u7⟩ := h1.cells; (try clear H); have H := Lib.hid h1; clear h1; clear h0)
                  | (go_at_call 137; refine (HR.out _ _ _ _ _ H.out).mono ?_; rintro e w1 ⟨rfl, h1⟩; (try rw [h_1]); (try rw [h_2]); (try rw [h_3]); (try clear c0 c1 c2 o0 o1 o2 o3 o4 o5 o6 u0 u1 u2 u3 u4 u5 u6 u7); obtain ⟨c0, c1, c2, o0, o1, o2, o3, o4, o5, o6, u0, u1, u2, u3, u4, u5, u6, u7⟩ := h1.cells; (try clear H); have H := Lib.hid h1; clear h1)
                  | (go_at_call 138; refine (HC.out _ _ H.out).mono ?_; rintro e w2 ⟨rfl, h1⟩; (try clear c0 c1 c2 o0 o1 o2 o3 o4 o5 o6 u0 u1 u2 u3 u4 u5 u6 u7); obtain ⟨c0, c1, c2, o0, o1, o2, o3, o4, o5, o6, u0, u1, u2, u3, u4, u5, u6, u7⟩ := h1.cells; (try clear H); have H := Lib.hid h1; clear h1)
                  | (go_at_call 140; refine (HB.out _ _ H.out).mono ?_; rintro e w3 ⟨rfl, h1⟩; (try clear c0 c1 c2 o0 o1 o2 o3 o4 o5 o6 u0 u1 u2 u3 u4 u5 u6 u7); obtain ⟨c0, c1, c2, o0, o1, o2, o3, o4, o5, o6, u0, u1, u2, u3, u4, u5, u6, u7⟩ := h1.cells; (try clear H); have H := Lib.hid h1; clear h1))
                go_ret
                exact ⟨rfl, H.out.e.below⟩
              · rw [decide_eq_false hd]
                have qd : (d == -1) = false := by simpa using hd
                clear hd
                have HE := EnvO.new w R sl st 29 d a b imm text AA na ac args hA hK
                go_enter Tryz.func120, Tryz.ntmps120
                go_wp2_with (first
                  | (go_at_call 136; refine (HRU.out _ HE).mono ?_; rintro e w0 ⟨rfl, h0⟩; have h1 := EnvR.new h0 s rd ra rb true rmb fi ft; (try clear c0 c1 c2 o0 o1 o2 o3 o4 o5 o6 u0 u1 u2 u3 u4 u5 u6 u7); obtain ⟨c0, c1, c2, o0, o1, o2, o3, o4, o5, o6, u0, u1, u2, u3, u4, u5, u6, u7⟩ := h1.cells; (try clear H); have H := Lib.hid h1; clear h1; clear h0)
                  | (go_at_call 137; refine (HR.out _ _ _ _ _ H.out).mono ?_; rintro e w1 ⟨rfl, h1⟩; (try rw [h_1]); (try rw [h_2]); (try rw [h_3]); (try clear c0 c1 c2 o0 o1 o2 o3 o4 o5 o6 u0 u1 u2 u3 u4 u5 u6 u7); obtain ⟨c0, c1, c2, o0, o1, o2, o3, o4, o5, o6, u0, u1, u2, u3, u4, u5, u6, u7⟩ := h1.cells; (try clear H); have H := Lib.hid h1; clear h1)
                  | (go_at_call 138; refine (HC.out _ _ H.out).mono ?_; rintro e w2 ⟨rfl, h1⟩; (try clear c0 c1 c2 o0 o1 o2 o3 o4 o5 o6 u0 u1 u2 u3 u4 u5 u6 u7); obtain ⟨c0, c1, c2, o0, o1, o2, o3, o4, o5, o6, u0, u1, u2, u3, u4, u5, u6, u7⟩ := h1.cells; (try clear H); have H := Lib.hid h1; clear h1)
                  | (go_at_call 140; refine (HB.out _ _ H.out).mono ?_; rintro e w3 ⟨rfl, h1⟩; (try clear c0 c1 c2 o0 o1 o2 o3 o4 o5 o6 u0 u1 u2 u3 u4 u5 u6 u7); obtain ⟨c0, c1, c2, o0, o1, o2, o3, o4, o5, o6, u0, u1, u2, u3, u4, u5, u6, u7⟩ := h1.cells; (try clear H); have H := Lib.hid h1; clear h1))
                refine (HI.out _ _ H.out).mono ?_
                rintro e w4 ⟨rfl, h1⟩
                (try clear c0 c1 c2 o0 o1 o2 o3 o4 o5 o6 u0 u1 u2 u3 u4 u5 u6 u7)
                obtain ⟨c0, c1, c2, o0, o1, o2, o3, o4, o5, o6, u0, u1, u2, u3, u4, u5, u6, u7⟩ := h1.cells
                (try clear H)
                have H := Lib.hid h1
                clear h1
                go_wp2_with (first
                  | (go_at_call 136; refine (HRU.out _ HE).mono ?_; rintro e w0 ⟨rfl, h0⟩; have h1 := EnvR.new h0 s rd ra rb true rmb fi ft; (try clear c0 c1 c2 o0 o1 o2 o3 o4 o5 o6 u0 u1 u2 u3 u4 u5 u6 u7); obtain ⟨c0, c1, c2, o0, o1, o2, o3, o4, o5, o6, u0, u1, u2, u3, u4, u5, u6, u7⟩ := h1.cells; (try clear H); have H := Lib.hid h1; clear h1; clear h0)
                  | (go_at_call 137; refine (HR.out _ _ _ _ _ H.out).mono ?_; rintro e w1 ⟨rfl, h1⟩; (try rw [h_1]); (try rw [h_2]); (try rw [h_3]); (try clear c0 c1 c2 o0 o1 o2 o3 o4 o5 o6 u0 u1 u2 u3 u4 u5 u6 u7); obtain ⟨c0, c1, c2, o0, o1, o2, o3, o4, o5, o6, u0, u1, u2, u3, u4, u5, u6, u7⟩ := h1.cells; (try clear H); have H := Lib.hid h1; clear h1)
                  | (go_at_call 138; refine (HC.out _ _ H.out).mono ?_; rintro e w2 ⟨rfl, h1⟩; (try clear c0 c1 c2 o0 o1 o2 o3 o4 o5 o6 u0 u1 u2 u3 u4 u5 u6 u7); obtain ⟨c0, c1, c2, o0, o1, o2, o3, o4, o5, o6, u0, u1, u2, u3, u4, u5, u6, u7⟩ := h1.cells; (try clear H); have H := Lib.hid h1; clear h1)
                  | (go_at_call 140; refine (HB.out _ _ H.out).mono ?_; rintro e w3 ⟨rfl, h1⟩; (try clear c0 c1 c2 o0 o1 o2 o3 o4 o5 o6 u0 u1 u2 u3 u4 u5 u6 u7); obtain ⟨c0, c1, c2, o0, o1, o2, o3, o4, o5, o6, u0, u1, u2, u3, u4, u5, u6, u7⟩ := h1.cells; (try clear H); have H := Lib.hid h1; clear h1))
                refine (HT.out _ _ H.out).mono ?_
                rintro e w4 ⟨rfl, h1⟩
                (try clear c0 c1 c2 o0 o1 o2 o3 o4 o5 o6 u0 u1 u2 u3 u4 u5 u6 u7)
                obtain ⟨c0, c1, c2, o0, o1, o2, o3, o4, o5, o6, u0, u1, u2, u3, u4, u5, u6, u7⟩ := h1.cells
                (try clear H)
                have H := Lib.hid h1
                clear h1
                go_wp2_with (first
                  | (go_at_call 136; refine (HRU.out _ HE).mono ?_; rintro e w0 ⟨rfl, h0⟩; have h1 := EnvR.new h0 s rd ra rb true rmb fi ft; (try clear c0 c1 c2 o0 o1 o2 o3 o4 o5 o6 u0 u1 u2 u3 u4 u5 u6 u7); obtain ⟨c0, c1, c2, o0, o1, o2, o3, o4, o5, o6, u0, u1, u2, u3, u4, u5, u6, u7⟩ := h1.cells; (try clear H); have H := Lib.hid h1; clear h1; clear h0)
                  | (go_at_call 137; refine (HR.out _ _ _ _ _ H.out).mono ?_; rintro e w1 ⟨rfl, h1⟩; (try rw [h_1]); (try rw [h_2]); (try rw [h_3]); (try clear c0 c1 c2 o0 o1 o2 o3 o4 o5 o6 u0 u1 u2 u3 u4 u5 u6 u7); obtain ⟨c0, c1, c2, o0, o1, o2, o3, o4, o5, o6, u0, u1, u2, u3, u4, u5, u6, u7⟩ := h1.cells; (try clear H); have H := Lib.hid h1; clear h1)
                  | (go_at_call 138; refine (HC.out _ _ H.out).mono ?_; rintro e w2 ⟨rfl, h1⟩; (try clear c0 c1 c2 o0 o1 o2 o3 o4 o5 o6 u0 u1 u2 u3 u4 u5 u6 u7); obtain ⟨c0, c1, c2, o0, o1, o2, o3, o4, o5, o6, u0, u1, u2, u3, u4, u5, u6, u7⟩ := h1.cells; (try clear H); have H := Lib.hid h1; clear h1)
                  | (go_at_call 140; refine (HB.out _ _ H.out).mono ?_; rintro e w3 ⟨rfl, h1⟩; (try clear c0 c1 c2 o0 o1 o2 o3 o4 o5 o6 u0 u1 u2 u3 u4 u5 u6 u7); obtain ⟨c0, c1, c2, o0, o1, o2, o3, o4, o5, o6, u0, u1, u2, u3, u4, u5, u6, u7⟩ := h1.cells; (try clear H); have H := Lib.hid h1; clear h1))
                go_ret
                exact ⟨rfl, H.out.e.below⟩
          · rw [decide_eq_false hn]
            have qn : ((na : Int) == bi) = false := by simpa using hn
            clear hn
            have HE := EnvO.new w R sl st 29 d a b imm text AA na ac args hA hK
            go_enter Tryz.func120, Tryz.ntmps120
            go_wp2_with (first
              | (go_at_call 136; refine (HRU.out _ HE).mono ?_; rintro e w0 ⟨rfl, h0⟩; have h1 := EnvR.new h0 s rd ra rb true rmb fi ft; (try clear c0 c1 c2 o0 o1 o2 o3 o4 o5 o6 u0 u1 u2 u3 u4 u5 u6 u7); obtain ⟨c0, c1, c2, o0, o1, o2, o3, o4, o5, o6, u0, u1, u2, u3, u4, u5, u6, u7⟩ := h1.cells; (try clear H); have H := Lib.hid h1; clear h1; clear h0)
              | (go_at_call 137; refine (HR.out _ _ _ _ _ H.out).mono ?_; rintro e w1 ⟨rfl, h1⟩; (try rw [h_1]); (try rw [h_2]); (try rw [h_3]); (try clear c0 c1 c2 o0 o1 o2 o3 o4 o5 o6 u0 u1 u2 u3 u4 u5 u6 u7); obtain ⟨c0, c1, c2, o0, o1, o2, o3, o4, o5, o6, u0, u1, u2, u3, u4, u5, u6, u7⟩ := h1.cells; (try clear H); have H := Lib.hid h1; clear h1)
              | (go_at_call 138; refine (HC.out _ _ H.out).mono ?_; rintro e w2 ⟨rfl, h1⟩; (try clear c0 c1 c2 o0 o1 o2 o3 o4 o5 o6 u0 u1 u2 u3 u4 u5 u6 u7); obtain ⟨c0, c1, c2, o0, o1, o2, o3, o4, o5, o6, u0, u1, u2, u3, u4, u5, u6, u7⟩ := h1.cells; (try clear H); have H := Lib.hid h1; clear h1)
              | (go_at_call 140; refine (HB.out _ _ H.out).mono ?_; rintro e w3 ⟨rfl, h1⟩; (try clear c0 c1 c2 o0 o1 o2 o3 o4 o5 o6 u0 u1 u2 u3 u4 u5 u6 u7); obtain ⟨c0, c1, c2, o0, o1, o2, o3, o4, o5, o6, u0, u1, u2, u3, u4, u5, u6, u7⟩ := h1.cells; (try clear H); have H := Lib.hid h1; clear h1))
            refine (HI.out _ _ H.out).mono ?_
            rintro e w4 ⟨rfl, h1⟩
            (try clear c0 c1 c2 o0 o1 o2 o3 o4 o5 o6 u0 u1 u2 u3 u4 u5 u6 u7)
            obtain ⟨c0, c1, c2, o0, o1, o2, o3, o4, o5, o6, u0, u1, u2, u3, u4, u5, u6, u7⟩ := h1.cells
            (try clear H)
            have H := Lib.hid h1
            clear h1
            go_wp2_with (first
              | (go_at_call 136; refine (HRU.out _ HE).mono ?_; rintro e w0 ⟨rfl, h0⟩; have h1 := EnvR.new h0 s rd ra rb true rmb fi ft; (try clear c0 c1 c2 o0 o1 o2 o3 o4 o5 o6 u0 u1 u2 u3 u4 u5 u6 u7); obtain ⟨c0, c1, c2, o0, o1, o2, o3, o4, o5, o6, u0, u1, u2, u3, u4, u5, u6, u7⟩ := h1.cells; (try clear H); have H := Lib.hid h1; clear h1; clear h0)
              | (go_at_call 137; refine (HR.out _ _ _ _ _ H.out).mono ?_; rintro e w1 ⟨rfl, h1⟩; (try rw [h_1]); (try rw [h_2]); (try rw [h_3]); (try clear c0 c1 c2 o0 o1 o2 o3 o4 o5 o6 u0 u1 u2 u3 u4 u5 u6 u7); obtain ⟨c0, c1, c2, o0, o1, o2, o3, o4, o5, o6, u0, u1, u2, u3, u4, u5, u6, u7⟩ := h1.cells; (try clear H); have H := Lib.hid h1; clear h1)
              | (go_at_call 138; refine (HC.out _ _ H.out).mono ?_; rintro e w2 ⟨rfl, h1⟩; (try clear c0 c1 c2 o0 o1 o2 o3 o4 o5 o6 u0 u1 u2 u3 u4 u5 u6 u7); obtain ⟨c0, c1, c2, o0, o1, o2, o3, o4, o5, o6, u0, u1, u2, u3, u4, u5, u6, u7⟩ := h1.cells; (try clear H); have H := Lib.hid h1; clear h1)
              | (go_at_call 140; refine (HB.out _ _ H.out).mono ?_; rintro e w3 ⟨rfl, h1⟩; (try clear c0 c1 c2 o0 o1 o2 o3 o4 o5 o6 u0 u1 u2 u3 u4 u5 u6 u7); obtain ⟨c0, c1, c2, o0, o1, o2, o3, o4, o5, o6, u0, u1, u2, u3, u4, u5, u6, u7⟩ := h1.cells; (try clear H); have H := Lib.hid h1; clear h1))
            refine (HT.out _ _ H.out).mono ?_
            rintro e w4 ⟨rfl, h1⟩
            (try clear c0 c1 c2 o0 o1 o2 o3 o4 o5 o6 u0 u1 u2 u3 u4 u5 u6 u7)
            obtain ⟨c0, c1, c2, o0, o1, o2, o3, o4, o5, o6, u0, u1, u2, u3, u4, u5, u6, u7⟩ := h1.cells
            (try clear H)
            have H := Lib.hid h1
            clear h1
            go_wp2_with (first
              | (go_at_call 136; refine (HRU.out _ HE).mono ?_; rintro e w0 ⟨rfl, h0⟩; have h1 := EnvR.new h0 s rd ra rb true rmb fi ft; (try clear c0 c1 c2 o0 o1 o2 o3 o4 o5 o6 u0 u1 u2 u3 u4 u5 u6 u7); obtain ⟨c0, c1, c2, o0, o1, o2, o3, o4, o5, o6, u0, u1, u2, u3, u4, u5, u6, u7⟩ := h1.cells; (try clear H); have H := Lib.hid h1; clear h1; clear h0)
              | (go_at_call 137; refine (HR.out _ _ _ _ _ H.out).mono ?_; rintro e w1 ⟨rfl, h1⟩; (try rw [h_1]); (try rw [h_2]); (try rw [h_3]); (try clear c0 c1 c2 o0 o1 o2 o3 o4 o5 o6 u0 u1 u2 u3 u4 u5 u6 u7); obtain ⟨c0, c1, c2, o0, o1, o2, o3, o4, o5, o6, u0, u1, u2, u3, u4, u5, u6, u7⟩ := h1.cells; (try clear H); have H := Lib.hid h1; clear h1)
              | (go_at_call 138; refine (HC.out _ _ H.out).mono ?_; rintro e w2 ⟨rfl, h1⟩; (try clear c0 c1 c2 o0 o1 o2 o3 o4 o5 o6 u0 u1 u2 u3 u4 u5 u6 u7); obtain ⟨c0, c1, c2, o0, o1, o2, o3, o4, o5, o6, u0, u1, u2, u3, u4, u5, u6, u7⟩ := h1.cells; (try clear H); have H := Lib.hid h1; clear h1)
              | (go_at_call 140; refine (HB.out _ _ H.out).mono ?_; rintro e w3 ⟨rfl, h1⟩; (try clear c0 c1 c2 o0 o1 o2 o3 o4 o5 o6 u0 u1 u2 u3 u4 u5 u6 u7); obtain ⟨c0, c1, c2, o0, o1, o2, o3, o4, o5, o6, u0, u1, u2, u3, u4, u5, u6, u7⟩ := h1.cells; (try clear H); have H := Lib.hid h1; clear h1))
            go_ret
            exact ⟨rfl, H.out.e.below⟩
        · rw [if_neg k29]
          have q21 : (k == 21) = false := by simpa using k21
          have q23 : (k == 23) = false := by simpa using k23
          have q29 : (k == 29) = false := by simpa using k29
          clear k21 k23 k29
          have HE := EnvO.new w R sl st k d a b imm text AA na ac args hA hK
          go_enter Tryz.func120, Tryz.ntmps120
          go_wp2_with (first
            | (go_at_call 136; refine (HRU.out _ HE).mono ?_; rintro e w0 ⟨rfl, h0⟩; have h1 := EnvR.new h0 s rd ra rb true rmb fi ft; (try clear c0 c1 c2 o0 o1 o2 o3 o4 o5 o6 u0 u1 u2 u3 u4 u5 u6 u7); obtain ⟨c0, c1, c2, o0, o1, o2, o3, o4, o5, o6, u0, u1, u2, u3, u4, u5, u6, u7⟩ := h1.cells; (try clear H); have H := Lib.hid h1; clear h1; clear h0)
            | (go_at_call 137; refine (HR.out _ _ _ _ _ H.out).mono ?_; rintro e w1 ⟨rfl, h1⟩; (try rw [h_1]); (try rw [h_2]); (try rw [h_3]); (try clear c0 c1 c2 o0 o1 o2 o3 o4 o5 o6 u0 u1 u2 u3 u4 u5 u6 u7); obtain ⟨c0, c1, c2, o0, o1, o2, o3, o4, o5, o6, u0, u1, u2, u3, u4, u5, u6, u7⟩ := h1.cells; (try clear H); have H := Lib.hid h1; clear h1)
            | (go_at_call 138; refine (HC.out _ _ H.out).mono ?_; rintro e w2 ⟨rfl, h1⟩; (try clear c0 c1 c2 o0 o1 o2 o3 o4 o5 o6 u0 u1 u2 u3 u4 u5 u6 u7); obtain ⟨c0, c1, c2, o0, o1, o2, o3, o4, o5, o6, u0, u1, u2, u3, u4, u5, u6, u7⟩ := h1.cells; (try clear H); have H := Lib.hid h1; clear h1)
            | (go_at_call 140; refine (HB.out _ _ H.out).mono ?_; rintro e w3 ⟨rfl, h1⟩; (try clear c0 c1 c2 o0 o1 o2 o3 o4 o5 o6 u0 u1 u2 u3 u4 u5 u6 u7); obtain ⟨c0, c1, c2, o0, o1, o2, o3, o4, o5, o6, u0, u1, u2, u3, u4, u5, u6, u7⟩ := h1.cells; (try clear H); have H := Lib.hid h1; clear h1))
          refine (HI.out _ _ H.out).mono ?_
          rintro e w4 ⟨rfl, h1⟩
          (try clear c0 c1 c2 o0 o1 o2 o3 o4 o5 o6 u0 u1 u2 u3 u4 u5 u6 u7)
          obtain ⟨c0, c1, c2, o0, o1, o2, o3, o4, o5, o6, u0, u1, u2, u3, u4, u5, u6, u7⟩ := h1.cells
          (try clear H)
          have H := Lib.hid h1
          clear h1
          go_wp2_with (first
            | (go_at_call 136; refine (HRU.out _ HE).mono ?_; rintro e w0 ⟨rfl, h0⟩; have h1 := EnvR.new h0 s rd ra rb true rmb fi ft; (try clear c0 c1 c2 o0 o1 o2 o3 o4 o5 o6 u0 u1 u2 u3 u4 u5 u6 u7); obtain ⟨c0, c1, c2, o0, o1, o2, o3, o4, o5, o6, u0, u1, u2, u3, u4, u5, u6, u7⟩ := h1.cells; (try clear H); have H := Lib.hid h1; clear h1; clear h0)
            | (go_at_call 137; refine (HR.out _ _ _ _ _ H.out).mono ?_; rintro e w1 ⟨rfl, h1⟩; (try rw [h_1]); (try rw [h_2]); (try rw [h_3]); (try clear c0 c1 c2 o0 o1 o2 o3 o4 o5 o6 u0 u1 u2 u3 u4 u5 u6 u7); obtain ⟨c0, c1, c2, o0, o1, o2, o3, o4, o5, o6, u0, u1, u2, u3, u4, u5, u6, u7⟩ := h1.cells; (try clear H); have H := Lib.hid h1; clear h1)
            | (go_at_call 138; refine (HC.out _ _ H.out).mono ?_; rintro e w2 ⟨rfl, h1⟩; (try clear c0 c1 c2 o0 o1 o2 o3 o4 o5 o6 u0 u1 u2 u3 u4 u5 u6 u7); obtain ⟨c0, c1, c2, o0, o1, o2, o3, o4, o5, o6, u0, u1, u2, u3, u4, u5, u6, u7⟩ := h1.cells; (try clear H); have H := Lib.hid h1; clear h1)
            | (go_at_call 140; refine (HB.out _ _ H.out).mono ?_; rintro e w3 ⟨rfl, h1⟩; (try clear c0 c1 c2 o0 o1 o2 o3 o4 o5 o6 u0 u1 u2 u3 u4 u5 u6 u7); obtain ⟨c0, c1, c2, o0, o1, o2, o3, o4, o5, o6, u0, u1, u2, u3, u4, u5, u6, u7⟩ := h1.cells; (try clear H); have H := Lib.hid h1; clear h1))
          refine (HT.out _ _ H.out).mono ?_
          rintro e w4 ⟨rfl, h1⟩
          (try clear c0 c1 c2 o0 o1 o2 o3 o4 o5 o6 u0 u1 u2 u3 u4 u5 u6 u7)
          obtain ⟨c0, c1, c2, o0, o1, o2, o3, o4, o5, o6, u0, u1, u2, u3, u4, u5, u6, u7⟩ := h1.cells
          (try clear H)
          have H := Lib.hid h1
          clear h1
          go_wp2_with (first
            | (go_at_call 136; refine (HRU.out _ HE).mono ?_; rintro e w0 ⟨rfl, h0⟩; have h1 := EnvR.new h0 s rd ra rb true rmb fi ft; (try clear c0 c1 c2 o0 o1 o2 o3 o4 o5 o6 u0 u1 u2 u3 u4 u5 u6 u7); obtain ⟨c0, c1, c2, o0, o1, o2, o3, o4, o5, o6, u0, u1, u2, u3, u4, u5, u6, u7⟩ := h1.cells; (try clear H); have H := Lib.hid h1; clear h1; clear h0)
            | (go_at_call 137; refine (HR.out _ _ _ _ _ H.out).mono ?_; rintro e w1 ⟨rfl, h1⟩; (try rw [h_1]); (try rw [h_2]); (try rw [h_3]); (try clear c0 c1 c2 o0 o1 o2 o3 o4 o5 o6 u0 u1 u2 u3 u4 u5 u6 u7); obtain ⟨c0, c1, c2, o0, o1, o2, o3, o4, o5, o6, u0, u1, u2, u3, u4, u5, u6, u7⟩ := h1.cells; (try clear H); have H := Lib.hid h1; clear h1)
            | (go_at_call 138; refine (HC.out _ _ H.out).mono ?_; rintro e w2 ⟨rfl, h1⟩; (try clear c0 c1 c2 o0 o1 o2 o3 o4 o5 o6 u0 u1 u2 u3 u4 u5 u6 u7); obtain ⟨c0, c1, c2, o0, o1, o2, o3, o4, o5, o6, u0, u1, u2, u3, u4, u5, u6, u7⟩ := h1.cells; (try clear H); have H := Lib.hid h1; clear h1)
            | (go_at_call 140; refine (HB.out _ _ H.out).mono ?_; rintro e w3 ⟨rfl, h1⟩; (try clear c0 c1 c2 o0 o1 o2 o3 o4 o5 o6 u0 u1 u2 u3 u4 u5 u6 u7); obtain ⟨c0, c1, c2, o0, o1, o2, o3, o4, o5, o6, u0, u1, u2, u3, u4, u5, u6, u7⟩ := h1.cells; (try clear H); have H := Lib.hid h1; clear h1))
          go_ret
          exact ⟨rfl, H.out.e.below⟩
  · skip
    by_cases k21 : k = 21
    · subst k21
      rw [if_pos rfl]
      have HE := EnvO.new w R sl st 21 d a b imm text AA na ac args hA hK
      go_enter Tryz.func120, Tryz.ntmps120
      go_wp2_with (first
        | (go_at_call 136; refine (HRU.out _ HE).mono ?_; rintro e w0 ⟨rfl, h0⟩; have h1 := EnvR.new h0 s rd ra rb false rmb fi ft; (try clear c0 c1 c2 o0 o1 o2 o3 o4 o5 o6 u0 u1 u2 u3 u4 u5 u6 u7); obtain ⟨c0, c1, c2, o0, o1, o2, o3, o4, o5, o6, u0, u1, u2, u3, u4, u5, u6, u7⟩ := h1.cells; (try clear H); have H := Lib.hid h1; clear h1; clear h0)
        | (go_at_call 137; refine (HR.out _ _ _ _ _ H.out).mono ?_; rintro e w1 ⟨rfl, h1⟩; (try rw [h_1]); (try rw [h_2]); (try rw [h_3]); (try clear c0 c1 c2 o0 o1 o2 o3 o4 o5 o6 u0 u1 u2 u3 u4 u5 u6 u7); obtain ⟨c0, c1, c2, o0, o1, o2, o3, o4, o5, o6, u0, u1, u2, u3, u4, u5, u6, u7⟩ := h1.cells; (try clear H); have H := Lib.hid h1; clear h1)
        | (go_at_call 138; refine (HC.out _ _ H.out).mono ?_; rintro e w2 ⟨rfl, h1⟩; (try clear c0 c1 c2 o0 o1 o2 o3 o4 o5 o6 u0 u1 u2 u3 u4 u5 u6 u7); obtain ⟨c0, c1, c2, o0, o1, o2, o3, o4, o5, o6, u0, u1, u2, u3, u4, u5, u6, u7⟩ := h1.cells; (try clear H); have H := Lib.hid h1; clear h1)
        | (go_at_call 140; refine (HB.out _ _ H.out).mono ?_; rintro e w3 ⟨rfl, h1⟩; (try clear c0 c1 c2 o0 o1 o2 o3 o4 o5 o6 u0 u1 u2 u3 u4 u5 u6 u7); obtain ⟨c0, c1, c2, o0, o1, o2, o3, o4, o5, o6, u0, u1, u2, u3, u4, u5, u6, u7⟩ := h1.cells; (try clear H); have H := Lib.hid h1; clear h1))
      refine (HI.out _ _ H.out).mono ?_
      rintro e w4 ⟨rfl, h1⟩
      (try clear c0 c1 c2 o0 o1 o2 o3 o4 o5 o6 u0 u1 u2 u3 u4 u5 u6 u7)
      obtain ⟨c0, c1, c2, o0, o1, o2, o3, o4, o5, o6, u0, u1, u2, u3, u4, u5, u6, u7⟩ := h1.cells
      (try clear H)
      have H := Lib.hid h1
      clear h1
      go_wp2_with (first
        | (go_at_call 136; refine (HRU.out _ HE).mono ?_; rintro e w0 ⟨rfl, h0⟩; have h1 := EnvR.new h0 s rd ra rb false rmb fi ft; (try clear c0 c1 c2 o0 o1 o2 o3 o4 o5 o6 u0 u1 u2 u3 u4 u5 u6 u7); obtain ⟨c0, c1, c2, o0, o1, o2, o3, o4, o5, o6, u0, u1, u2, u3, u4, u5, u6, u7⟩ := h1.cells; (try clear H); have H := Lib.hid h1; clear h1; clear h0)
        | (go_at_call 137; refine (HR.out _ _ _ _ _ H.out).mono ?_; rintro e w1 ⟨rfl, h1⟩; (try rw [h_1]); (try rw [h_2]); (try rw [h_3]); (try clear c0 c1 c2 o0 o1 o2 o3 o4 o5 o6 u0 u1 u2 u3 u4 u5 u6 u7); obtain ⟨c0, c1, c2, o0, o1, o2, o3, o4, o5, o6, u0, u1, u2, u3, u4, u5, u6, u7⟩ := h1.cells; (try clear H); have H := Lib.hid h1; clear h1)
        | (go_at_call 138; refine (HC.out _ _ H.out).mono ?_; rintro e w2 ⟨rfl, h1⟩; (try clear c0 c1 c2 o0 o1 o2 o3 o4 o5 o6 u0 u1 u2 u3 u4 u5 u6 u7); obtain ⟨c0, c1, c2, o0, o1, o2, o3, o4, o5, o6, u0, u1, u2, u3, u4, u5, u6, u7⟩ := h1.cells; (try clear H); have H := Lib.hid h1; clear h1)
        | (go_at_call 140; refine (HB.out _ _ H.out).mono ?_; rintro e w3 ⟨rfl, h1⟩; (try clear c0 c1 c2 o0 o1 o2 o3 o4 o5 o6 u0 u1 u2 u3 u4 u5 u6 u7); obtain ⟨c0, c1, c2, o0, o1, o2, o3, o4, o5, o6, u0, u1, u2, u3, u4, u5, u6, u7⟩ := h1.cells; (try clear H); have H := Lib.hid h1; clear h1))
      refine (HT.out _ _ H.out).mono ?_
      rintro e w4 ⟨rfl, h1⟩
      (try clear c0 c1 c2 o0 o1 o2 o3 o4 o5 o6 u0 u1 u2 u3 u4 u5 u6 u7)
      obtain ⟨c0, c1, c2, o0, o1, o2, o3, o4, o5, o6, u0, u1, u2, u3, u4, u5, u6, u7⟩ := h1.cells
      (try clear H)
      have H := Lib.hid h1
      clear h1
      go_wp2_with (first
        | (go_at_call 136; refine (HRU.out _ HE).mono ?_; rintro e w0 ⟨rfl, h0⟩; have h1 := EnvR.new h0 s rd ra rb false rmb fi ft; (try clear c0 c1 c2 o0 o1 o2 o3 o4 o5 o6 u0 u1 u2 u3 u4 u5 u6 u7); obtain ⟨c0, c1, c2, o0, o1, o2, o3, o4, o5, o6, u0, u1, u2, u3, u4, u5, u6, u7⟩ := h1.cells; (try clear H); have H := Lib.hid h1; clear h1; clear h0)
        | (go_at_call 137; refine (HR.out _ _ _ _ _ H.out).mono ?_; rintro e w1 ⟨rfl, h1⟩; (try rw [h_1]); (try rw [h_2]); (try rw [h_3]); (try clear c0 c1 c2 o0 o1 o2 o3 o4 o5 o6 u0 u1 u2 u3 u4 u5 u6 u7); obtain ⟨c0, c1, c2, o0, o1, o2, o3, o4, o5, o6, u0, u1, u2, u3, u4, u5, u6, u7⟩ := h1.cells; (try clear H); have H := Lib.hid h1; clear h1)
        | (go_at_call 138; refine (HC.out _ _ H.out).mono ?_; rintro e w2 ⟨rfl, h1⟩; (try clear c0 c1 c2 o0 o1 o2 o3 o4 o5 o6 u0 u1 u2 u3 u4 u5 u6 u7); obtain ⟨c0, c1, c2, o0, o1, o2, o3, o4, o5, o6, u0, u1, u2, u3, u4, u5, u6, u7⟩ := h1.cells; (try clear H); have H := Lib.hid h1; clear h1)
        | (go_at_call 140; refine (HB.out _ _ H.out).mono ?_; rintro e w3 ⟨rfl, h1⟩; (try clear c0 c1 c2 o0 o1 o2 o3 o4 o5 o6 u0 u1 u2 u3 u4 u5 u6 u7); obtain ⟨c0, c1, c2, o0, o1, o2, o3, o4, o5, o6, u0, u1, u2, u3, u4, u5, u6, u7⟩ := h1.cells; (try clear H); have H := Lib.hid h1; clear h1))
      go_ret
      exact ⟨rfl, H.out.e.below⟩
    · rw [if_neg k21]
      by_cases k23 : k = 23
      · subst k23
        rw [if_pos rfl]
        clear k21
        have HE := EnvO.new w R sl st 23 d a b imm text AA na ac args hA hK
        go_enter Tryz.func120, Tryz.ntmps120
        go_wp2_with (first
          | (go_at_call 136; refine (HRU.out _ HE).mono ?_; rintro e w0 ⟨rfl, h0⟩; have h1 := EnvR.new h0 s rd ra rb false rmb fi ft; (try clear c0 c1 c2 o0 o1 o2 o3 o4 o5 o6 u0 u1 u2 u3 u4 u5 u6 u7); obtain ⟨c0, c1, c2, o0, o1, o2, o3, o4, o5, o6, u0, u1, u2, u3, u4, u5, u6, u7⟩ := h1.cells; (try clear H); have H := Lib.hid h1; clear h1; clear h0)
          | (go_at_call 137; refine (HR.out _ _ _ _ _ H.out).mono ?_; rintro e w1 ⟨rfl, h1⟩; (try rw [h_1]); (try rw [h_2]); (try rw [h_3]); (try clear c0 c1 c2 o0 o1 o2 o3 o4 o5 o6 u0 u1 u2 u3 u4 u5 u6 u7); obtain ⟨c0, c1, c2, o0, o1, o2, o3, o4, o5, o6, u0, u1, u2, u3, u4, u5, u6, u7⟩ := h1.cells; (try clear H); have H := Lib.hid h1; clear h1)
          | (go_at_call 138; refine (HC.out _ _ H.out).mono ?_; rintro e w2 ⟨rfl, h1⟩; (try clear c0 c1 c2 o0 o1 o2 o3 o4 o5 o6 u0 u1 u2 u3 u4 u5 u6 u7); obtain ⟨c0, c1, c2, o0, o1, o2, o3, o4, o5, o6, u0, u1, u2, u3, u4, u5, u6, u7⟩ := h1.cells; (try clear H); have H := Lib.hid h1; clear h1)
          | (go_at_call 140; refine (HB.out _ _ H.out).mono ?_; rintro e w3 ⟨rfl, h1⟩; (try clear c0 c1 c2 o0 o1 o2 o3 o4 o5 o6 u0 u1 u2 u3 u4 u5 u6 u7); obtain ⟨c0, c1, c2, o0, o1, o2, o3, o4, o5, o6, u0, u1, u2, u3, u4, u5, u6, u7⟩ := h1.cells; (try clear H); have H := Lib.hid h1; clear h1))
        refine (HI.out _ _ H.out).mono ?_
        rintro e w4 ⟨rfl, h1⟩
        (try clear c0 c1 c2 o0 o1 o2 o3 o4 o5 o6 u0 u1 u2 u3 u4 u5 u6 u7)
        obtain ⟨c0, c1, c2, o0, o1, o2, o3, o4, o5, o6, u0, u1, u2, u3, u4, u5, u6, u7⟩ := h1.cells
        (try clear H)
        have H := Lib.hid h1
        clear h1
        go_wp2_with (first
          | (go_at_call 136; refine (HRU.out _ HE).mono ?_; rintro e w0 ⟨rfl, h0⟩; have h1 := EnvR.new h0 s rd ra rb false rmb fi ft; (try clear c0 c1 c2 o0 o1 o2 o3 o4 o5 o6 u0 u1 u2 u3 u4 u5 u6 u7); obtain ⟨c0, c1, c2, o0, o1, o2, o3, o4, o5, o6, u0, u1, u2, u3, u4, u5, u6, u7⟩ := h1.cells; (try clear H); have H := Lib.hid h1; clear h1; clear h0)
          | (go_at_call 137; refine (HR.out _ _ _ _ _ H.out).mono ?_; rintro e w1 ⟨rfl, h1⟩; (try rw [h_1]); (try rw [h_2]); (try rw [h_3]); (try clear c0 c1 c2 o0 o1 o2 o3 o4 o5 o6 u0 u1 u2 u3 u4 u5 u6 u7); obtain ⟨c0, c1, c2, o0, o1, o2, o3, o4, o5, o6, u0, u1, u2, u3, u4, u5, u6, u7⟩ := h1.cells; (try clear H); have H := Lib.hid h1; clear h1)
          | (go_at_call 138; refine (HC.out _ _ H.out).mono ?_; rintro e w2 ⟨rfl, h1⟩; (try clear c0 c1 c2 o0 o1 o2 o3 o4 o5 o6 u0 u1 u2 u3 u4 u5 u6 u7); obtain ⟨c0, c1, c2, o0, o1, o2, o3, o4, o5, o6, u0, u1, u2, u3, u4, u5, u6, u7⟩ := h1.cells; (try clear H); have H := Lib.hid h1; clear h1)
          | (go_at_call 140; refine (HB.out _ _ H.out).mono ?_; rintro e w3 ⟨rfl, h1⟩; (try clear c0 c1 c2 o0 o1 o2 o3 o4 o5 o6 u0 u1 u2 u3 u4 u5 u6 u7); obtain ⟨c0, c1, c2, o0, o1, o2, o3, o4, o5, o6, u0, u1, u2, u3, u4, u5, u6, u7⟩ := h1.cells; (try clear H); have H := Lib.hid h1; clear h1))
        refine (HT.out _ _ H.out).mono ?_
        rintro e w4 ⟨rfl, h1⟩
        (try clear c0 c1 c2 o0 o1 o2 o3 o4 o5 o6 u0 u1 u2 u3 u4 u5 u6 u7)
        obtain ⟨c0, c1, c2, o0, o1, o2, o3, o4, o5, o6, u0, u1, u2, u3, u4, u5, u6, u7⟩ := h1.cells
        (try clear H)
        have H := Lib.hid h1
        clear h1
        go_wp2_with (first
          | (go_at_call 136; refine (HRU.out _ HE).mono ?_; rintro e w0 ⟨rfl, h0⟩; have h1 := EnvR.new h0 s rd ra rb false rmb fi ft; (try clear c0 c1 c2 o0 o1 o2 o3 o4 o5 o6 u0 u1 u2 u3 u4 u5 u6 u7); obtain ⟨c0, c1, c2, o0, o1, o2, o3, o4, o5, o6, u0, u1, u2, u3, u4, u5, u6, u7⟩ := h1.cells; (try clear H); have H := Lib.hid h1; clear h1; clear h0)
          | (go_at_call 137; refine (HR.out _ _ _ _ _ H.out).mono ?_; rintro e w1 ⟨rfl, h1⟩; (try rw [h_1]); (try rw [h_2]); (try rw [h_3]); (try clear c0 c1 c2 o0 o1 o2 o3 o4 o5 o6 u0 u1 u2 u3 u4 u5 u6 u7); obtain ⟨c0, c1, c2, o0, o1, o2, o3, o4, o5, o6, u0, u1, u2, u3, u4, u5, u6, u7⟩ := h1.cells; (try clear H); have H := Lib.hid h1; clear h1)
          | (go_at_call 138; refine (HC.out _ _ H.out).mono ?_; rintro e w2 ⟨rfl, h1⟩; (try clear c0 c1 c2 o0 o1 o2 o3 o4 o5 o6 u0 u1 u2 u3 u4 u5 u6 u7); obtain ⟨c0, c1, c2, o0, o1, o2, o3, o4, o5, o6, u0, u1, u2, u3, u4, u5, u6, u7⟩ := h1.cells; (try clear H); have H := Lib.hid h1; clear h1)
          | (go_at_call 140; refine (HB.out _ _ H.out).mono ?_; rintro e w3 ⟨rfl, h1⟩; (try clear c0 c1 c2 o0 o1 o2 o3 o4 o5 o6 u0 u1 u2 u3 u4 u5 u6 u7); obtain ⟨c0, c1, c2, o0, o1, o2, o3, o4, o5, o6, u0, u1, u2, u3, u4, u5, u6, u7⟩ := h1.cells; (try clear H); have H := Lib.hid h1; clear h1))
        go_ret
        exact ⟨rfl, H.out.e.below⟩
      · rw [if_neg k23]
        by_cases k29 : k = 29
        · subst k29
          rw [if_pos rfl]
          clear k21 k23
          by_cases hn : (na : Int) = bi
          · rw [decide_eq_true hn]
            have qn : ((na : Int) == bi) = true := by simpa using hn
            clear hn
            cases ba with
            | true =>
              have HE := EnvO.new w R sl st 29 d a b imm text AA na ac args hA hK
              go_enter Tryz.func120, Tryz.ntmps120
              go_wp2_with (first
                | (go_at_call 136; refine (HRU.out _ HE).mono ?_; rintro e w0 ⟨rfl, h0⟩; have h1 := EnvR.new h0 s rd ra rb false rmb fi ft; (try clear c0 c1 c2 o0 o1 o2 o3 o4 o5 o6 u0 u1 u2 u3 u4 u5 u6 u7); obtain ⟨c0, c1, c2, o0, o1, o2, o3, o4, o5, o6, u0, u1, u2, u3, u4, u5, u6, u7⟩ := h1.cells; (try clear H); have H := Lib.hid h1; clear h1; clear h0)
                | (go_at_call 137; refine (HR.out _ _ _ _ _ H.out).mono ?_; rintro e w1 ⟨rfl, h1⟩; (try rw [h_1]); (try rw [h_2]); (try rw [h_3]); (try clear c0 c1 c2 o0 o1 o2 o3 o4 o5 o6 u0 u1 u2 u3 u4 u5 u6 u7); obtain ⟨c0, c1, c2, o0, o1, o2, o3, o4, o5, o6, u0, u1, u2, u3, u4, u5, u6, u7⟩ := h1.cells; (try clear H); have H := Lib.hid h1; clear h1)
                | (go_at_call 138; refine (HC.out _ _ H.out).mono ?_; rintro e w2 ⟨rfl, h1⟩; (try clear c0 c1 c2 o0 o1 o2 o3 o4 o5 o6 u0 u1 u2 u3 u4 u5 u6 u7); obtain ⟨c0, c1, c2, o0, o1, o2, o3, o4, o5, o6, u0, u1, u2, u3, u4, u5, u6, u7⟩ := h1.cells; (try clear H); have H := Lib.hid h1; clear h1)
                | (go_at_call 140; refine (HB.out _ _ H.out).mono ?_; rintro e w3 ⟨rfl, h1⟩; (try clear c0 c1 c2 o0 o1 o2 o3 o4 o5 o6 u0 u1 u2 u3 u4 u5 u6 u7); obtain ⟨c0, c1, c2, o0, o1, o2, o3, o4, o5, o6, u0, u1, u2, u3, u4, u5, u6, u7⟩ := h1.cells; (try clear H); have H := Lib.hid h1; clear h1))
              refine (HI.out _ _ H.out).mono ?_
              rintro e w4 ⟨rfl, h1⟩
              (try clear c0 c1 c2 o0 o1 o2 o3 o4 o5 o6 u0 u1 u2 u3 u4 u5 u6 u7)
              obtain ⟨c0, c1, c2, o0, o1, o2, o3, o4, o5, o6, u0, u1, u2, u3, u4, u5, u6, u7⟩ := h1.cells
              (try clear H)
              have H := Lib.hid h1
              clear h1
              go_wp2_with (first
                | (go_at_call 136; refine (HRU.out _ HE).mono ?_; rintro e w0 ⟨rfl, h0⟩; have h1 := EnvR.new h0 s rd ra rb false rmb fi ft; (try clear c0 c1 c2 o0 o1 o2 o3 o4 o5 o6 u0 u1 u2 u3 u4 u5 u6 u7); obtain ⟨c0, c1, c2, o0, o1, o2, o3, o4, o5, o6, u0, u1, u2, u3, u4, u5, u6, u7⟩ := h1.cells; (try clear H); have H := Lib.hid h1; clear h1; clear h0)
                | (go_at_call 137; refine (HR.out _ _ _ _ _ H.out).mono ?_; rintro e w1 ⟨rfl, h1⟩; (try rw [h_1]); (try rw [h_2]); (try rw [h_3]); (try clear c0 c1 c2 o0 o1 o2 o3 o4 o5 o6 u0 u1 u2 u3 u4 u5 u6 u7); obtain ⟨c0, c1, c2, o0, o1, o2, o3, o4, o5, o6, u0, u1, u2, u3, u4, u5, u6, u7⟩ := h1.cells; (try clear H); have H := Lib.hid h1; clear h1)
                | (go_at_call 138; refine (HC.out _ _ H.out).mono ?_; rintro e w2 ⟨rfl, h1⟩; (try clear c0 c1 c2 o0 o1 o2 o3 o4 o5 o6 u0 u1 u2 u3 u4 u5 u6 u7); obtain ⟨c0, c1, c2, o0, o1, o2, o3, o4, o5, o6, u0, u1, u2, u3, u4, u5, u6, u7⟩ := h1.cells; (try clear H); have H := Lib.hid h1; clear h1)
                | (go_at_call 140; refine (HB.out _ _ H.out).mono ?_; rintro e w3 ⟨rfl, h1⟩; (try clear c0 c1 c2 o0 o1 o2 o3 o4 o5 o6 u0 u1 u2 u3 u4 u5 u6 u7); obtain ⟨c0, c1, c2, o0, o1, o2, o3, o4, o5, o6, u0, u1, u2, u3, u4, u5, u6, u7⟩ := h1.cells; (try clear H); have H := Lib.hid h1; clear h1))
              refine (HT.out _ _ H.out).mono ?_
              rintro e w4 ⟨rfl, h1⟩
              (try clear c0 c1 c2 o0 o1 o2 o3 o4 o5 o6 u0 u1 u2 u3 u4 u5 u6 u7)
              obtain ⟨c0, c1, c2, o0, o1, o2, o3, o4, o5, o6, u0, u1, u2, u3, u4, u5, u6, u7⟩ := h1.cells
              (try clear H)
              have H := Lib.hid h1
              clear h1
              go_wp2_with (first
                | (go_at_call 136; refine (HRU.out _ HE).mono ?_; rintro e w0 ⟨rfl, h0⟩; have h1 := EnvR.new h0 s rd ra rb false rmb fi ft; (try clear c0 c1 c2 o0 o1 o2 o3 o4 o5 o6 u0 u1 u2 u3 u4 u5 u6 u7); obtain ⟨c0, c1, c2, o0, o1, o2, o3, o4, o5, o6, u0, u1, u2, u3, u4, u5, u6, u7⟩ := h1.cells; (try clear H); have H := Lib.hid h1; clear h1; clear h0)
                | (go_at_call 137; refine (HR.out _ _ _ _ _ H.out).mono ?_; rintro e w1 ⟨rfl, h1⟩; (try rw [h_1]); (try rw [h_2]); (try rw [h_3]); (try clear c0 c1 c2 o0 o1 o2 o3 o4 o5 o6 u0 u1 u2 u3 u4 u5 u6 u7); obtain ⟨c0, c1, c2, o0, o1, o2, o3, o4, o5, o6, u0, u1, u2, u3, u4, u5, u6, u7⟩ := h1.cells; (try clear H); have H := Lib.hid h1; clear h1)
                | (go_at_call 138; refine (HC.out _ _ H.out).mono ?_; rintro e w2 ⟨rfl, h1⟩; (try clear c0 c1 c2 o0 o1 o2 o3 o4 o5 o6 u0 u1 u2 u3 u4 u5 u6 u7); obtain ⟨c0, c1, c2, o0, o1, o2, o3, o4, o5, o6, u0, u1, u2, u3, u4, u5, u6, u7⟩ := h1.cells; (try clear H); have H := Lib.hid h1; clear h1)
                | (go_at_call 140; refine (HB.out _ _ H.out).mono ?_; rintro e w3 ⟨rfl, h1⟩; (try clear c0 c1 c2 o0 o1 o2 o3 o4 o5 o6 u0 u1 u2 u3 u4 u5 u6 u7); obtain ⟨c0, c1, c2, o0, o1, o2, o3, o4, o5, o6, u0, u1, u2, u3, u4, u5, u6, u7⟩ := h1.cells; (try clear H); have H := Lib.hid h1; clear h1))
              go_ret
              exact ⟨rfl, H.out.e.below⟩
            | false =>
              by_cases hd : d = -1
              · rw [decide_eq_true hd]
                have qd : (d == -1) = true := by simpa using hd
                clear hd
                have HE := EnvO.new w R sl st 29 d a b imm text AA na ac args hA hK
                go_enter Tryz.func120, Tryz.ntmps120
                go_wp2_with (first
                  | (go_at_call 136; refine (HRU.out _ HE).mono ?_; rintro e w0 ⟨rfl, h0⟩; have h1 := EnvR.new h0 s rd ra rb false rmb fi ft; (try clear c0 c1 c2 o0 o1 o2 o3 o4 o5 o6 u0 u1 u2 u3 u4 u5 u6 u7); obtain ⟨c0, c1, c2, o0, o1, o2, o3, o4, o5, o6, u0, u1, u2, u3, u4, u5, u6, u7⟩ := h1.cells; (try clear H); have H := Lib.hid h1; clear h1; clear h0)
                  | (go_at_call 137; refine (HR.out _ _ _ _ _ H.out).mono ?_; rintro e w1 ⟨rfl, h1⟩; (try rw [h_1]); (try rw [h_2]); (try rw [h_3]); (try clear c0 c1 c2 o0 o1 o2 o3 o4 o5 o6 u0 u1 u2 u3 u4 u5 u6 u7); obtain ⟨c0, c1, c2, o0, o1, o2, o3, o4, o5, o6, u0, u1, u2, u3, u4, u5, u6, u7⟩ := h1.cells; (try clear H); have H := Lib.hid h1; clear h1)
                  | (go_at_call 138; refine (HC.out _ _ H.out).mono ?_; rintro e w2 ⟨rfl, h1⟩; (try clear c0 c1 c2 o0 o1 o2 o3 o4 o5 o6 u0 u1 u2 u3 u4 u5 u6 u7); obtain ⟨c0, c1, c2, o0, o1, o2, o3, o4, o5, o6, u0, u1, u2, u3, u4, u5, u6, u7⟩ := h1.cells; (try clear H); have H := Lib.hid h1; clear h1)
                  | (go_at_call 140; refine (HB.out _ _ H.out).mono ?_; rintro e w3 ⟨rfl, h1⟩; (try clear c0 c1 c2 o0 o1 o2 o3 o4 o5 o6 u0 u1 u2 u3 u4 u5 u6 u7); obtain ⟨c0, c1, c2, o0, o1, o2, o3, o4, o5, o6, u0, u1, u2, u3, u4, u5, u6, u7⟩ := h1.cells; (try clear H); have H := Lib.hid h1; clear h1))
                refine (HI.out _ _ H.out).mono ?_
                rintro e w4 ⟨rfl, h1⟩
                (try clear c0 c1 c2 o0 o1 o2 o3 o4 o5 o6 u0 u1 u2 u3 u4 u5 u6 u7)
                obtain ⟨c0, c1, c2, o0, o1, o2, o3, o4, o5, o6, u0, u1, u2, u3, u4, u5, u6, u7⟩ := h1.cells
                (try clear H)
                have H := Lib.hid h1
                clear h1
                go_wp2_with (first
                  | (go_at_call 136; refine (HRU.out _ HE).mono ?_; rintro e w0 ⟨rfl, h0⟩; have h1 := EnvR.new h0 s rd ra rb false rmb fi ft; (try clear c0 c1 c2 o0 o1 o2 o3 o4 o5 o6 u0 u1 u2 u3 u4 u5 u6 u7); obtain ⟨c0, c1, c2, o0, o1, o2, o3, o4, o5, o6, u0, u1, u2, u3, u4, u5, u6, u7⟩ := h1.cells; (try clear H); have H := Lib.hid h1; clear h1; clear h0)
                  | (go_at_call 137; refine (HR.out _ _ _ _ _ H.out).mono ?_; rintro e w1 ⟨rfl, h1⟩; (try rw [h_1]); (try rw [h_2]); (try rw [h_3]); (try clear c0 c1 c2 o0 o1 o2 o3 o4 o5 o6 u0 u1 u2 u3 u4 u5 u6 u7); obtain ⟨c0, c1, c2, o0, o1, o2, o3, o4, o5, o6, u0, u1, u2, u3, u4, u5, u6, u7⟩ := h1.cells; (try clear H); have H := Lib.hid h1; clear h1)
                  | (go_at_call 138; refine (HC.out _ _ H.out).mono ?_; rintro e w2 ⟨rfl, h1⟩; (try clear c0 c1 c2 o0 o1 o2 o3 o4 o5 o6 u0 u1 u2 u3 u4 u5 u6 u7); obtain ⟨c0, c1, c2, o0, o1, o2, o3, o4, o5, o6, u0, u1, u2, u3, u4, u5, u6, u7⟩ := h1.cells; (try clear H); have H := Lib.hid h1; clear h1)
                  | (go_at_call 140; refine (HB.out _ _ H.out).mono ?_; rintro e w3 ⟨rfl, h1⟩; (try clear c0 c1 c2 o0 o1 o2 o3 o4 o5 o6 u0 u1 u2 u3 u4 u5 u6 u7); obtain ⟨c0, c1, c2, o0, o1, o2, o3, o4, o5, o6, u0, u1, u2, u3, u4, u5, u6, u7⟩ := h1.cells; (try clear H); have H := Lib.hid h1; clear h1))
                refine (HT.out _ _ H.out).mono ?_
                rintro e w4 ⟨rfl, h1⟩
                (try clear c0 c1 c2 o0 o1 o2 o3 o4 o5 o6 u0 u1 u2 u3 u4 u5 u6 u7)
                obtain ⟨c0, c1, c2, o0, o1, o2, o3, o4, o5, o6, u0, u1, u2, u3, u4, u5, u6, u7⟩ := h1.cells
                (try clear H)
                have H := Lib.hid h1
                clear h1
                go_wp2_with (first
                  | (go_at_call 136; refine (HRU.out _ HE).mono ?_; rintro e w0 ⟨rfl, h0⟩; have h1 := EnvR.new h0 s rd ra rb false rmb fi ft; (try clear c0 c1 c2 o0 o1 o2 o3 o4 o5 o6 u0 u1 u2 u3 u4 u5 u6 u7); obtain ⟨c0, c1, c2, o0, o1, o2, o3, o4, o5, o6, u0, u1, u2, u3, u4, u5, u6, u7⟩ := h1.cells; (try clear H); have H := Lib.hid h1; clear h1; clear h0)
                  | (go_at_call 137; refine (HR.out _ _ _ _ _ H.out).mono ?_; rintro e w1 ⟨rfl, h1⟩; (try rw [h_1]); (try rw [h_2]); (try rw [h_3]); (try clear c0 c1 c2 o0 o1 o2 o3 o4 o5 o6 u0 u1 u2 u3 u4 u5 u6 u7); obtain ⟨c0, c1, c2, o0, o1, o2, o3, o4, o5, o6, u0, u1, u2, u3, u4, u5, u6, u7⟩ := h1.cells; (try clear H); have H := Lib.hid h1; clear h1)
                  | (go_at_call 138; refine (HC.out _ _ H.out).mono ?_; rintro e w2 ⟨rfl, h1⟩; (try clear c0 c1 c2 o0 o1 o2 o3 o4 o5 o6 u0 u1 u2 u3 u4 u5 u6 u7); obtain ⟨c0, c1, c2, o0, o1, o2, o3, o4, o5, o6, u0, u1, u2, u3, u4, u5, u6, u7⟩ := h1.cells; (try clear H); have H := Lib.hid h1; clear h1)
                  | (go_at_call 140; refine (HB.out _ _ H.out).mono ?_; rintro e w3 ⟨rfl, h1⟩; (try clear c0 c1 c2 o0 o1 o2 o3 o4 o5 o6 u0 u1 u2 u3 u4 u5 u6 u7); obtain ⟨c0, c1, c2, o0, o1, o2, o3, o4, o5, o6, u0, u1, u2, u3, u4, u5, u6, u7⟩ := h1.cells; (try clear H); have H := Lib.hid h1; clear h1))
                go_ret
                exact ⟨rfl, H.out.e.below⟩
              · rw [decide_eq_false hd]
                have qd : (d == -1) = false := by simpa using hd
                clear hd
                have HE := EnvO.new w R sl st 29 d a b imm text AA na ac args hA hK
                go_enter Tryz.func120, Tryz.ntmps120
                go_wp2_with (first
                  | (go_at_call 136; refine (HRU.out _ HE).mono ?_; rintro e w0 ⟨rfl, h0⟩; have h1 := EnvR.new h0 s rd ra rb false rmb fi ft; (try clear c0 c1 c2 o0 o1 o2 o3 o4 o5 o6 u0 u1 u2 u3 u4 u5 u6 u7); obtain ⟨c0, c1, c2, o0, o1, o2, o3, o4, o5, o6, u0, u1, u2, u3, u4, u5, u6, u7⟩ := h1.cells; (try clear H); have H := Lib.hid h1; clear h1; clear h0)
                  | (go_at_call 137; refine (HR.out _ _ _ _ _ H.out).mono ?_; rintro e w1 ⟨rfl, h1⟩; (try rw [h_1]); (try rw [h_2]); (try rw [h_3]); (try clear c0 c1 c2 o0 o1 o2 o3 o4 o5 o6 u0 u1 u2 u3 u4 u5 u6 u7); obtain ⟨c0, c1, c2, o0, o1, o2, o3, o4, o5, o6, u0, u1, u2, u3, u4, u5, u6, u7⟩ := h1.cells; (try clear H); have H := Lib.hid h1; clear h1)
                  | (go_at_call 138; refine (HC.out _ _ H.out).mono ?_; rintro e w2 ⟨rfl, h1⟩; (try clear c0 c1 c2 o0 o1 o2 o3 o4 o5 o6 u0 u1 u2 u3 u4 u5 u6 u7); obtain ⟨c0, c1, c2, o0, o1, o2, o3, o4, o5, o6, u0, u1, u2, u3, u4, u5, u6, u7⟩ := h1.cells; (try clear H); have H := Lib.hid h1; clear h1)
                  | (go_at_call 140; refine (HB.out _ _ H.out).mono ?_; rintro e w3 ⟨rfl, h1⟩; (try clear c0 c1 c2 o0 o1 o2 o3 o4 o5 o6 u0 u1 u2 u3 u4 u5 u6 u7); obtain ⟨c0, c1, c2, o0, o1, o2, o3, o4, o5, o6, u0, u1, u2, u3, u4, u5, u6, u7⟩ := h1.cells; (try clear H); have H := Lib.hid h1; clear h1))
                refine (HI.out _ _ H.out).mono ?_
                rintro e w4 ⟨rfl, h1⟩
                (try clear c0 c1 c2 o0 o1 o2 o3 o4 o5 o6 u0 u1 u2 u3 u4 u5 u6 u7)
                obtain ⟨c0, c1, c2, o0, o1, o2, o3, o4, o5, o6, u0, u1, u2, u3, u4, u5, u6, u7⟩ := h1.cells
                (try clear H)
                have H := Lib.hid h1
                clear h1
                go_wp2_with (first
                  | (go_at_call 136; refine (HRU.out _ HE).mono ?_; rintro e w0 ⟨rfl, h0⟩; have h1 := EnvR.new h0 s rd ra rb false rmb fi ft; (try clear c0 c1 c2 o0 o1 o2 o3 o4 o5 o6 u0 u1 u2 u3 u4 u5 u6 u7); obtain ⟨c0, c1, c2, o0, o1, o2, o3, o4, o5, o6, u0, u1, u2, u3, u4, u5, u6, u7⟩ := h1.cells; (try clear H); have H := Lib.hid h1; clear h1; clear h0)
                  | (go_at_call 137; refine (HR.out _ _ _ _ _ H.out).mono ?_; rintro e w1 ⟨rfl, h1⟩; (try rw [h_1]); (try rw [h_2]); (try rw [h_3]); (try clear c0 c1 c2 o0 o1 o2 o3 o4 o5 o6 u0 u1 u2 u3 u4 u5 u6 u7); obtain ⟨c0, c1, c2, o0, o1, o2, o3, o4, o5, o6, u0, u1, u2, u3, u4, u5, u6, u7⟩ := h1.cells; (try clear H); have H := Lib.hid h1; clear h1)
                  | (go_at_call 138; refine (HC.out _ _ H.out).mono ?_; rintro e w2 ⟨rfl, h1⟩; (try clear c0 c1 c2 o0 o1 o2 o3 o4 o5 o6 u0 u1 u2 u3 u4 u5 u6 u7); obtain ⟨c0, c1, c2, o0, o1, o2, o3, o4, o5, o6, u0, u1, u2, u3, u4, u5, u6, u7⟩ := h1.cells; (try clear H); have H := Lib.hid h1; clear h1)
                  | (go_at_call 140; refine (HB.out _ _ H.out).mono ?_; rintro e w3 ⟨rfl, h1⟩; (try clear c0 c1 c2 o0 o1 o2 o3 o4 o5 o6 u0 u1 u2 u3 u4 u5 u6 u7); obtain ⟨c0, c1, c2, o0, o1, o2, o3, o4, o5, o6, u0, u1, u2, u3, u4, u5, u6, u7⟩ := h1.cells; (try clear H); have H := Lib.hid h1; clear h1))
                refine (HT.out _ _ H.out).mono ?_
                rintro e w4 ⟨rfl, h1⟩
                (try clear c0 c1 c2 o0 o1 o2 o3 o4 o5 o6 u0 u1 u2 u3 u4 u5 u6 u7)
                obtain ⟨c0, c1, c2, o0, o1, o2, o3, o4, o5, o6, u0, u1, u2, u3, u4, u5, u6, u7⟩ := h1.cells
                (try clear H)
                have H := Lib.hid h1
                clear h1
                go_wp2_with (first
                  | (go_at_call 136; refine (HRU.out _ HE).mono ?_; rintro e w0 ⟨rfl, h0⟩; have h1 := EnvR.new h0 s rd ra rb false rmb fi ft; (try clear c0 c1 c2 o0 o1 o2 o3 o4 o5 o6 u0 u1 u2 u3 u4 u5 u6 u7); obtain ⟨c0, c1, c2, o0, o1, o2, o3, o4, o5, o6, u0, u1, u2, u3, u4, u5, u6, u7⟩ := h1.cells; (try clear H); have H := Lib.hid h1; clear h1; clear h0)
                  | (go_at_call 137; refine (HR.out _ _ _ _ _ H.out).mono ?_; rintro e w1 ⟨rfl, h1⟩; (try rw [h_1]); (try rw [h_2]); (try rw [h_3]); (try clear c0 c1 c2 o0 o1 o2 o3 o4 o5 o6 u0 u1 u2 u3 u4 u5 u6 u7); obtain ⟨c0, c1, c2, o0, o1, o2, o3, o4, o5, o6, u0, u1, u2, u3, u4, u5, u6, u7⟩ := h1.cells; (try clear H); have H := Lib.hid h1; clear h1)
                  | (go_at_call 138; refine (HC.out _ _ H.out).mono ?_; rintro e w2 ⟨rfl, h1⟩; (try clear c0 c1 c2 o0 o1 o2 o3 o4 o5 o6 u0 u1 u2 u3 u4 u5 u6 u7); obtain ⟨c0, c1, c2, o0, o1, o2, o3, o4, o5, o6, u0, u1, u2, u3, u4, u5, u6, u7⟩ := h1.cells; (try clear H); have H := Lib.hid h1; clear h1)
                  | (go_at_call 140; refine (HB.out _ _ H.out).mono ?_; rintro e w3 ⟨rfl, h1⟩; (try clear c0 c1 c2 o0 o1 o2 o3 o4 o5 o6 u0 u1 u2 u3 u4 u5 u6 u7); obtain ⟨c0, c1, c2, o0, o1, o2, o3, o4, o5, o6, u0, u1, u2, u3, u4, u5, u6, u7⟩ := h1.cells; (try clear H); have H := Lib.hid h1; clear h1))
                go_ret
                exact ⟨rfl, H.out.e.below⟩
          · rw [decide_eq_false hn]
            have qn : ((na : Int) == bi) = false := by simpa using hn
            clear hn
            have HE := EnvO.new w R sl st 29 d a b imm text AA na ac args hA hK
            go_enter Tryz.func120, Tryz.ntmps120
            go_wp2_with (first
              | (go_at_call 136; refine (HRU.out _ HE).mono ?_; rintro e w0 ⟨rfl, h0⟩; have h1 := EnvR.new h0 s rd ra rb false rmb fi ft; (try clear c0 c1 c2 o0 o1 o2 o3 o4 o5 o6 u0 u1 u2 u3 u4 u5 u6 u7); obtain ⟨c0, c1, c2, o0, o1, o2, o3, o4, o5, o6, u0, u1, u2, u3, u4, u5, u6, u7⟩ := h1.cells; (try clear H); have H := Lib.hid h1; clear h1; clear h0)
              | (go_at_call 137; refine (HR.out _ _ _ _ _ H.out).mono ?_; rintro e w1 ⟨rfl, h1⟩; (try rw [h_1]); (try rw [h_2]); (try rw [h_3]); (try clear c0 c1 c2 o0 o1 o2 o3 o4 o5 o6 u0 u1 u2 u3 u4 u5 u6 u7); obtain ⟨c0, c1, c2, o0, o1, o2, o3, o4, o5, o6, u0, u1, u2, u3, u4, u5, u6, u7⟩ := h1.cells; (try clear H); have H := Lib.hid h1; clear h1)
              | (go_at_call 138; refine (HC.out _ _ H.out).mono ?_; rintro e w2 ⟨rfl, h1⟩; (try clear c0 c1 c2 o0 o1 o2 o3 o4 o5 o6 u0 u1 u2 u3 u4 u5 u6 u7); obtain ⟨c0, c1, c2, o0, o1, o2, o3, o4, o5, o6, u0, u1, u2, u3, u4, u5, u6, u7⟩ := h1.cells; (try clear H); have H := Lib.hid h1; clear h1)
              | (go_at_call 140; refine (HB.out _ _ H.out).mono ?_; rintro e w3 ⟨rfl, h1⟩; (try clear c0 c1 c2 o0 o1 o2 o3 o4 o5 o6 u0 u1 u2 u3 u4 u5 u6 u7); obtain ⟨c0, c1, c2, o0, o1, o2, o3, o4, o5, o6, u0, u1, u2, u3, u4, u5, u6, u7⟩ := h1.cells; (try clear H); have H := Lib.hid h1; clear h1))
            refine (HI.out _ _ H.out).mono ?_
            rintro e w4 ⟨rfl, h1⟩
            (try clear c0 c1 c2 o0 o1 o2 o3 o4 o5 o6 u0 u1 u2 u3 u4 u5 u6 u7)
            obtain ⟨c0, c1, c2, o0, o1, o2, o3, o4, o5, o6, u0, u1, u2, u3, u4, u5, u6, u7⟩ := h1.cells
            (try clear H)
            have H := Lib.hid h1
            clear h1
            go_wp2_with (first
              | (go_at_call 136; refine (HRU.out _ HE).mono ?_; rintro e w0 ⟨rfl, h0⟩; have h1 := EnvR.new h0 s rd ra rb false rmb fi ft; (try clear c0 c1 c2 o0 o1 o2 o3 o4 o5 o6 u0 u1 u2 u3 u4 u5 u6 u7); obtain ⟨c0, c1, c2, o0, o1, o2, o3, o4, o5, o6, u0, u1, u2, u3, u4, u5, u6, u7⟩ := h1.cells; (try clear H); have H := Lib.hid h1; clear h1; clear h0)
              | (go_at_call 137; refine (HR.out _ _ _ _ _ H.out).mono ?_; rintro e w1 ⟨rfl, h1⟩; (try rw [h_1]); (try rw [h_2]); (try rw [h_3]); (try clear c0 c1 c2 o0 o1 o2 o3 o4 o5 o6 u0 u1 u2 u3 u4 u5 u6 u7); obtain ⟨c0, c1, c2, o0, o1, o2, o3, o4, o5, o6, u0, u1, u2, u3, u4, u5, u6, u7⟩ := h1.cells; (try clear H); have H := Lib.hid h1; clear h1)
              | (go_at_call 138; refine (HC.out _ _ H.out).mono ?_; rintro e w2 ⟨rfl, h1⟩; (try clear c0 c1 c2 o0 o1 o2 o3 o4 o5 o6 u0 u1 u2 u3 u4 u5 u6 u7); obtain ⟨c0, c1, c2, o0, o1, o2, o3, o4, o5, o6, u0, u1, u2, u3, u4, u5, u6, u7⟩ := h1.cells; (try clear H); have H := Lib.hid h1; clear h1)
              | (go_at_call 140; refine (HB.out _ _ H.out).mono ?_; rintro e w3 ⟨rfl, h1⟩; (try clear c0 c1 c2 o0 o1 o2 o3 o4 o5 o6 u0 u1 u2 u3 u4 u5 u6 u7); obtain ⟨c0, c1, c2, o0, o1, o2, o3, o4, o5, o6, u0, u1, u2, u3, u4, u5, u6, u7⟩ := h1.cells; (try clear H); have H := Lib.hid h1; clear h1))
            refine (HT.out _ _ H.out).mono ?_
            rintro e w4 ⟨rfl, h1⟩
            (try clear c0 c1 c2 o0 o1 o2 o3 o4 o5 o6 u0 u1 u2 u3 u4 u5 u6 u7)
            obtain ⟨c0, c1, c2, o0, o1, o2, o3, o4, o5, o6, u0, u1, u2, u3, u4, u5, u6, u7⟩ := h1.cells
            (try clear H)
            have H := Lib.hid h1
            clear h1
            go_wp2_with (first
              | (go_at_call 136; refine (HRU.out _ HE).mono ?_; rintro e w0 ⟨rfl, h0⟩; have h1 := EnvR.new h0 s rd ra rb false rmb fi ft; (try clear c0 c1 c2 o0 o1 o2 o3 o4 o5 o6 u0 u1 u2 u3 u4 u5 u6 u7); obtain ⟨c0, c1, c2, o0, o1, o2, o3, o4, o5, o6, u0, u1, u2, u3, u4, u5, u6, u7⟩ := h1.cells; (try clear H); have H := Lib.hid h1; clear h1; clear h0)
              | (go_at_call 137; refine (HR.out _ _ _ _ _ H.out).mono ?_; rintro e w1 ⟨rfl, h1⟩; (try rw [h_1]); (try rw [h_2]); (try rw [h_3]); (try clear c0 c1 c2 o0 o1 o2 o3 o4 o5 o6 u0 u1 u2 u3 u4 u5 u6 u7); obtain ⟨c0, c1, c2, o0, o1, o2, o3, o4, o5, o6, u0, u1, u2, u3, u4, u5, u6, u7⟩ := h1.cells; (try clear H); have H := Lib.hid h1; clear h1)
              | (go_at_call 138; refine (HC.out _ _ H.out).mono ?_; rintro e w2 ⟨rfl, h1⟩; (try clear c0 c1 c2 o0 o1 o2 o3 o4 o5 o6 u0 u1 u2 u3 u4 u5 u6 u7); obtain ⟨c0, c1, c2, o0, o1, o2, o3, o4, o5, o6, u0, u1, u2, u3, u4, u5, u6, u7⟩ := h1.cells; (try clear H); have H := Lib.hid h1; clear h1)
              | (go_at_call 140; refine (HB.out _ _ H.out).mono ?_; rintro e w3 ⟨rfl, h1⟩; (try clear c0 c1 c2 o0 o1 o2 o3 o4 o5 o6 u0 u1 u2 u3 u4 u5 u6 u7); obtain ⟨c0, c1, c2, o0, o1, o2, o3, o4, o5, o6, u0, u1, u2, u3, u4, u5, u6, u7⟩ := h1.cells; (try clear H); have H := Lib.hid h1; clear h1))
            go_ret
            exact ⟨rfl, H.out.e.below⟩
        · rw [if_neg k29]
          have q21 : (k == 21) = false := by simpa using k21
          have q23 : (k == 23) = false := by simpa using k23
          have q29 : (k == 29) = false := by simpa using k29
          clear k21 k23 k29
          have HE := EnvO.new w R sl st k d a b imm text AA na ac args hA hK
          go_enter Tryz.func120, Tryz.ntmps120
          go_wp2_with (first
            | (go_at_call 136; refine (HRU.out _ HE).mono ?_; rintro e w0 ⟨rfl, h0⟩; have h1 := EnvR.new h0 s rd ra rb false rmb fi ft; (try clear c0 c1 c2 o0 o1 o2 o3 o4 o5 o6 u0 u1 u2 u3 u4 u5 u6 u7); obtain ⟨c0, c1, c2, o0, o1, o2, o3, o4, o5, o6, u0, u1, u2, u3, u4, u5, u6, u7⟩ := h1.cells; (try clear H); have H := Lib.hid h1; clear h1; clear h0)
            | (go_at_call 137; refine (HR.out _ _ _ _ _ H.out).mono ?_; rintro e w1 ⟨rfl, h1⟩; (try rw [h_1]); (try rw [h_2]); (try rw [h_3]); (try clear c0 c1 c2 o0 o1 o2 o3 o4 o5 o6 u0 u1 u2 u3 u4 u5 u6 u7); obtain ⟨c0, c1, c2, o0, o1, o2, o3, o4, o5, o6, u0, u1, u2, u3, u4, u5, u6, u7⟩ := h1.cells; (try clear H); have H := Lib.hid h1; clear h1)
            | (go_at_call 138; refine (HC.out _ _ H.out).mono ?_; rintro e w2 ⟨rfl, h1⟩; (try clear c0 c1 c2 o0 o1 o2 o3 o4 o5 o6 u0 u1 u2 u3 u4 u5 u6 u7); obtain ⟨c0, c1, c2, o0, o1, o2, o3, o4, o5, o6, u0, u1, u2, u3, u4, u5, u6, u7⟩ := h1.cells; (try clear H); have H := Lib.hid h1; clear h1)
            | (go_at_call 140; refine (HB.out _ _ H.out).mono ?_; rintro e w3 ⟨rfl, h1⟩; (try clear c0 c1 c2 o0 o1 o2 o3 o4 o5 o6 u0 u1 u2 u3 u4 u5 u6 u7); obtain ⟨c0, c1, c2, o0, o1, o2, o3, o4, o5, o6, u0, u1, u2, u3, u4, u5, u6, u7⟩ := h1.cells; (try clear H); have H := Lib.hid h1; clear h1))
          refine (HI.out _ _ H.out).mono ?_
          rintro e w4 ⟨rfl, h1⟩
          (try clear c0 c1 c2 o0 o1 o2 o3 o4 o5 o6 u0 u1 u2 u3 u4 u5 u6 u7)
          obtain ⟨c0, c1, c2, o0, o1, o2, o3, o4, o5, o6, u0, u1, u2, u3, u4, u5, u6, u7⟩ := h1.cells
          (try clear H)
          have H := Lib.hid h1
          clear h1
          go_wp2_with (first
            | (go_at_call 136; refine (HRU.out _ HE).mono ?_; rintro e w0 ⟨rfl, h0⟩; have h1 := EnvR.new h0 s rd ra rb false rmb fi ft; (try clear c0 c1 c2 o0 o1 o2 o3 o4 o5 o6 u0 u1 u2 u3 u4 u5 u6 u7); obtain ⟨c0, c1, c2, o0, o1, o2, o3, o4, o5, o6, u0, u1, u2, u3, u4, u5, u6, u7⟩ := h1.cells; (try clear H); have H := Lib.hid h1; clear h1; clear h0)
            | (go_at_call 137; refine (HR.out _ _ _ _ _ H.out).mono ?_; rintro e w1 ⟨rfl, h1⟩; (try rw [h_1]); (try rw [h_2]); (try rw [h_3]); (try clear c0 c1 c2 o0 o1 o2 o3 o4 o5 o6 u0 u1 u2 u3 u4 u5 u6 u7); obtain ⟨c0, c1, c2, o0, o1, o2, o3, o4, o5, o6, u0, u1, u2, u3, u4, u5, u6, u7⟩ := h1.cells; (try clear H); have H := Lib.hid h1; clear h1)
            | (go_at_call 138; refine (HC.out _ _ H.out).mono ?_; rintro e w2 ⟨rfl, h1⟩; (try clear c0 c1 c2 o0 o1 o2 o3 o4 o5 o6 u0 u1 u2 u3 u4 u5 u6 u7); obtain ⟨c0, c1, c2, o0, o1, o2, o3, o4, o5, o6, u0, u1, u2, u3, u4, u5, u6, u7⟩ := h1.cells; (try clear H); have H := Lib.hid h1; clear h1)
            | (go_at_call 140; refine (HB.out _ _ H.out).mono ?_; rintro e w3 ⟨rfl, h1⟩; (try clear c0 c1 c2 o0 o1 o2 o3 o4 o5 o6 u0 u1 u2 u3 u4 u5 u6 u7); obtain ⟨c0, c1, c2, o0, o1, o2, o3, o4, o5, o6, u0, u1, u2, u3, u4, u5, u6, u7⟩ := h1.cells; (try clear H); have H := Lib.hid h1; clear h1))
          refine (HT.out _ _ H.out).mono ?_
          rintro e w4 ⟨rfl, h1⟩
          (try clear c0 c1 c2 o0 o1 o2 o3 o4 o5 o6 u0 u1 u2 u3 u4 u5 u6 u7)
          obtain ⟨c0, c1, c2, o0, o1, o2, o3, o4, o5, o6, u0, u1, u2, u3, u4, u5, u6, u7⟩ := h1.cells
          (try clear H)
          have H := Lib.hid h1
          clear h1
          go_wp2_with (first
            | (go_at_call 136; refine (HRU.out _ HE).mono ?_; rintro e w0 ⟨rfl, h0⟩; have h1 := EnvR.new h0 s rd ra rb false rmb fi ft; (try clear c0 c1 c2 o0 o1 o2 o3 o4 o5 o6 u0 u1 u2 u3 u4 u5 u6 u7); obtain ⟨c0, c1, c2, o0, o1, o2, o3, o4, o5, o6, u0, u1, u2, u3, u4, u5, u6, u7⟩ := h1.cells; (try clear H); have H := Lib.hid h1; clear h1; clear h0)
            | (go_at_call 137; refine (HR.out _ _ _ _ _ H.out).mono ?_; rintro e w1 ⟨rfl, h1⟩; (try rw [h_1]); (try rw [h_2]); (try rw [h_3]); (try clear c0 c1 c2 o0 o1 o2 o3 o4 o5 o6 u0 u1 u2 u3 u4 u5 u6 u7); obtain ⟨c0, c1, c2, o0, o1, o2, o3, o4, o5, o6, u0, u1, u2, u3, u4, u5, u6, u7⟩ := h1.cells; (try clear H); have H := Lib.hid h1; clear h1)
            | (go_at_call 138; refine (HC.out _ _ H.out).mono ?_; rintro e w2 ⟨rfl, h1⟩; (try clear c0 c1 c2 o0 o1 o2 o3 o4 o5 o6 u0 u1 u2 u3 u4 u5 u6 u7); obtain ⟨c0, c1, c2, o0, o1, o2, o3, o4, o5, o6, u0, u1, u2, u3, u4, u5, u6, u7⟩ := h1.cells; (try clear H); have H := Lib.hid h1; clear h1)
            | (go_at_call 140; refine (HB.out _ _ H.out).mono ?_; rintro e w3 ⟨rfl, h1⟩; (try clear c0 c1 c2 o0 o1 o2 o3 o4 o5 o6 u0 u1 u2 u3 u4 u5 u6 u7); obtain ⟨c0, c1, c2, o0, o1, o2, o3, o4, o5, o6, u0, u1, u2, u3, u4, u5, u6, u7⟩ := h1.cells; (try clear H); have H := Lib.hid h1; clear h1))
          go_ret
          exact ⟨rfl, H.out.e.below⟩
end
end Go.Proofs.YthgbmhpfblgjcaaGreatDoor.fl
