/-
  The contract of Load of package block, but for pointers. Condition: a store stands in memory.
-/
import Derived.Test.YtejhphnlickjlaaDoorBlZ
import Derived.Test.YtejhphnlickjlaaDoorBlG
import Derived.Test.YtejhphnlickjlaaDoorBlS
set_option linter.unusedVariables false
set_option linter.unusedSimpArgs false
namespace Go.Proofs.YtejhphnlickjlaaDoor.bl
open Go.RowKit
open M ty
set_option linter.unusedVariables false
def WidthD (w : World) (k i o : Int) (s : ByteArray) (n : Nat) : Prop := ∀ W, EnvD w W k i o → Calls Tryd.prog 58 #[.string s] W fun e w' => e = .returned (.int .i64 n) ∧ EnvD w w' k i o
def ErrD (w : World) (g : Nat) (k i o n E : Int) : Prop := ∀ W, EnvD w W k i o → Calls Tryd.prog 59 #[.pointer (some ⟨g, 0, none⟩), .agg #[.int .i64 k, .int .i64 i, .int .i64 o], .int .i64 n] W fun e w' => (∃ P S, e = .returned (.tuple #[P, S, .int .i64 E])) ∧ EnvD w w' k i o
def SeeD (w : World) (g : Nat) (k i o : Int) (n p y q cap : Nat) (zs : List By) : Prop := ∀ W, EnvD w W k i o → Calls Tryd.prog 59 #[.pointer (some ⟨g, 0, none⟩), .agg #[.int .i64 k, .int .i64 i, .int .i64 o], .int .i64 n] W fun e w' =>
  e = .returned (.tuple #[.pointer (some ⟨p, 0, none⟩), .slice (some ⟨y, q * 6, none⟩) n cap, .int .i64 0]) ∧ EnvD w w' k i o ∧ BytesAt w' y (q * 6) zs ∧ y < w'.heap.size
def HasD (w : World) (k i o : Int) (n y q cap : Nat) (zs : List By) (b : Bool) : Prop := ∀ W, EnvD w W k i o → BytesAt W y (q * 6) zs → y < W.heap.size → Calls Tryd.prog 60 #[.slice (some ⟨y, q * 6, none⟩) n cap, .func (.func 61) #[] #[]] W fun e w' =>
  e = .returned (.bool b) ∧ EnvD w w' k i o ∧ BytesAt w' y (q * 6) zs ∧ y < w'.heap.size
def NumD (w : World) (k i o : Int) (s : ByteArray) (n y q cap : Nat) (zs : List By) (a x c E : Int) : Prop := ∀ W, EnvD w W k i o → BytesAt W y (q * 6) zs → y < W.heap.size → Calls Tryd.prog 63 #[.string s, .slice (some ⟨y, q * 6, none⟩) n cap] W fun e w' =>
  e = .returned (.tuple #[.agg #[.int .i64 a, .int .i64 x, .int .i64 c], .int .i64 E]) ∧ EnvD w w' k i o
def IntD (s : ByteArray) (b : Bool) : Prop := ∀ W, Calls Tryd.prog 62 #[.string s] W fun e w' => e = .returned (.bool b) ∧ w' = W
section
variable {w W : World} {B g N : Nat} {st : St} {L : Lay} {k i o a x c E : Int} {s : ByteArray} {n p y q cap : Nat} {zs : List By} {b : Bool}
set_option maxRecDepth 20000 in
set_option maxHeartbeats 800000 in
theorem load_shape (HW : Hid (WidthD w k i o s 0)) : Calls Tryd.prog 22 #[.pointer (some ⟨g, 0, none⟩), .agg #[.int .i64 k, .int .i64 i, .int .i64 o], .string s] w fun e w' => e = .returned (.tuple #[.agg #[.int .i64 0, .int .i64 0, .int .i64 0], .int .i64 5]) ∧ Below w.heap.size w w' := by
  go_enter Tryd.func22, Tryd.ntmps22
  go_wp2_with (first
    | (go_at_call 58; refine (HW.out _ (EnvD.new w k i o)).mono ?_; rintro e w1 ⟨rfl, h1⟩; obtain ⟨r0, r1, r2, f0, f1, f2⟩ := h1.rr; have H1 := Lib.hid h1; clear h1))
  try simp only [Exit.inBlock, Exit.then]
  refine bodyPost_ret (v := .tuple #[.agg #[.int .i64 0, .int .i64 0, .int .i64 0], .int .i64 5]) (by rw [results_cell_tmp rfl]; go_simp) rfl ?_
  exact ⟨rfl, H1.out.stored _ _ _⟩
set_option maxRecDepth 20000 in
set_option maxHeartbeats 800000 in
theorem load_err (hn : ((n : Int) == 0) = false) (HW : Hid (WidthD w k i o s n)) (HR : Hid (ErrD w g k i o n E)) (hE : (E != 0) = true) : Calls Tryd.prog 22 #[.pointer (some ⟨g, 0, none⟩), .agg #[.int .i64 k, .int .i64 i, .int .i64 o], .string s] w fun e w' => e = .returned (.tuple #[.agg #[.int .i64 0, .int .i64 0, .int .i64 0], .int .i64 E]) ∧ Below w.heap.size w w' := by
  go_enter Tryd.func22, Tryd.ntmps22
  go_wp2_with (first
    | (go_at_call 58; refine (HW.out _ (EnvD.new w k i o)).mono ?_; rintro e w1 ⟨rfl, h1⟩; obtain ⟨v0, v1, v2⟩ := h1.vv; have H1 := Lib.hid h1; clear h1)
    | (go_at_call 59; refine (HR.out _ H1.out).mono ?_; rintro e w2 ⟨⟨P, S, rfl⟩, h2⟩; obtain ⟨r0, r1, r2, f0, f1, f2⟩ := h2.rr; have H2 := Lib.hid h2; clear h2))
  try simp only [Exit.inBlock, Exit.then]
  refine bodyPost_ret (v := .tuple #[.agg #[.int .i64 0, .int .i64 0, .int .i64 0], .int .i64 E]) (by rw [results_cell_tmp rfl]; go_simp) rfl ?_
  exact ⟨rfl, H2.out.stored _ _ _⟩
set_option maxRecDepth 20000 in
set_option maxHeartbeats 800000 in
theorem load_skew (hn : ((n : Int) == 0) = false) (hn1 : ¬ (n : Int) = 0) (HW : Hid (WidthD w k i o s n)) (HR : Hid (SeeD w g k i o n p y q cap zs)) (hr : ¬ Int.tmod o n = 0) : Calls Tryd.prog 22 #[.pointer (some ⟨g, 0, none⟩), .agg #[.int .i64 k, .int .i64 i, .int .i64 o], .string s] w fun e w' => e = .returned (.tuple #[.agg #[.int .i64 0, .int .i64 0, .int .i64 0], .int .i64 142]) ∧ Below w.heap.size w w' := by
  go_enter Tryd.func22, Tryd.ntmps22
  go_wp2_with (first
    | (go_at_call 58; refine (HW.out _ (EnvD.new w k i o)).mono ?_; rintro e w1 ⟨rfl, h1⟩; obtain ⟨v0, v1, v2⟩ := h1.vv; have H1 := Lib.hid h1; clear h1)
    | (go_at_call 59; refine (HR.out _ H1.out).mono ?_; rintro e w2 ⟨rfl, h2, hb, hy⟩; clear v0 v1 v2; obtain ⟨v0, v1, v2⟩ := h2.vv; obtain ⟨r0, r1, r2, f0, f1, f2⟩ := h2.rr; have H2 := Lib.hid h2; clear h2 hb hy))
  try simp only [Exit.inBlock, Exit.then]
  refine bodyPost_ret (v := .tuple #[.agg #[.int .i64 0, .int .i64 0, .int .i64 0], .int .i64 142]) (by rw [results_cell_tmp rfl]; go_simp) rfl ?_
  exact ⟨rfl, H2.out.stored _ _ _⟩
set_option maxRecDepth 20000 in
set_option maxHeartbeats 800000 in
theorem load_hole (hn : ((n : Int) == 0) = false) (hn1 : ¬ (n : Int) = 0) (HW : Hid (WidthD w k i o s n)) (HR : Hid (SeeD w g k i o n p y q cap zs)) (hr : Int.tmod o n = 0) (HC : Hid (HasD w k i o n y q cap zs true)) : Calls Tryd.prog 22 #[.pointer (some ⟨g, 0, none⟩), .agg #[.int .i64 k, .int .i64 i, .int .i64 o], .string s] w fun e w' => e = .returned (.tuple #[.agg #[.int .i64 0, .int .i64 0, .int .i64 0], .int .i64 143]) ∧ Below w.heap.size w w' := by
  go_enter Tryd.func22, Tryd.ntmps22
  go_wp2_with (first
    | (go_at_call 58; refine (HW.out _ (EnvD.new w k i o)).mono ?_; rintro e w1 ⟨rfl, h1⟩; obtain ⟨v0, v1, v2⟩ := h1.vv; have H1 := Lib.hid h1; clear h1)
    | (go_at_call 59; refine (HR.out _ H1.out).mono ?_; rintro e w2 ⟨rfl, h2, hb, hy⟩; clear v0 v1 v2; obtain ⟨v0, v1, v2⟩ := h2.vv; have H2 := Lib.hid h2; have HB := Lib.hid hb; have HY := Lib.hid hy; clear h2 hb hy)
    | (go_at_call 60; refine (HC.out _ H2.out HB.out HY.out).mono ?_; rintro e w3 ⟨rfl, h3, hb, hy⟩; obtain ⟨r0, r1, r2, f0, f1, f2⟩ := h3.rr; have H3 := Lib.hid h3; clear h3 hb hy))
  try simp only [Exit.inBlock, Exit.then]
  refine bodyPost_ret (v := .tuple #[.agg #[.int .i64 0, .int .i64 0, .int .i64 0], .int .i64 143]) (by rw [results_cell_tmp rfl]; go_simp) rfl ?_
  exact ⟨rfl, H3.out.stored _ _ _⟩
set_option maxRecDepth 20000 in
set_option maxHeartbeats 800000 in
theorem load_num (hn : ((n : Int) == 0) = false) (hn1 : ¬ (n : Int) = 0) (HW : Hid (WidthD w k i o s n)) (HR : Hid (SeeD w g k i o n p y q cap zs)) (hr : Int.tmod o n = 0) (HC : Hid (HasD w k i o n y q cap zs false)) (HI : Hid (IntD s true)) (HN : Hid (NumD w k i o s n y q cap zs a x c E)) :
    Calls Tryd.prog 22 #[.pointer (some ⟨g, 0, none⟩), .agg #[.int .i64 k, .int .i64 i, .int .i64 o], .string s] w fun e w' => e = .returned (.tuple #[.agg #[.int .i64 a, .int .i64 x, .int .i64 c], .int .i64 E]) ∧ Below w.heap.size w w' := by
  go_enter Tryd.func22, Tryd.ntmps22
  go_wp2_with (first
    | (go_at_call 58; refine (HW.out _ (EnvD.new w k i o)).mono ?_; rintro e w1 ⟨rfl, h1⟩; obtain ⟨v0, v1, v2⟩ := h1.vv; have H1 := Lib.hid h1; clear h1)
    | (go_at_call 59; refine (HR.out _ H1.out).mono ?_; rintro e w2 ⟨rfl, h2, hb, hy⟩; clear v0 v1 v2; obtain ⟨v0, v1, v2⟩ := h2.vv; have H2 := Lib.hid h2; have HB := Lib.hid hb; have HY := Lib.hid hy; clear h2 hb hy)
    | (go_at_call 60; refine (HC.out _ H2.out HB.out HY.out).mono ?_; rintro e w3 ⟨rfl, h3, hb, hy⟩; have H3 := Lib.hid h3; have HB3 := Lib.hid hb; have HY3 := Lib.hid hy; clear h3 hb hy)
    | (go_at_call 62; refine (HI.out _).mono ?_; rintro e w4 ⟨rfl, rfl⟩)
    | (go_at_call 63; refine (HN.out _ H3.out HB3.out HY3.out).mono ?_; rintro e w5 ⟨rfl, h5⟩; obtain ⟨r0, r1, r2, f0, f1, f2⟩ := h5.rr; have H5 := Lib.hid h5; clear h5))
  try simp only [Exit.inBlock, Exit.then]
  refine bodyPost_ret (v := .tuple #[.agg #[.int .i64 a, .int .i64 x, .int .i64 c], .int .i64 E]) (by rw [results_cell_tmp rfl]; go_simp) rfl ?_
  exact ⟨rfl, H5.out.stored _ _ _⟩
end
end Go.Proofs.YtejhphnlickjlaaDoor.bl
