/-
  The contract of the reference's Conv: sorts that fit. No condition.
-/
import Derived.Test.YtejhphnlickjlaaDoorVaS
namespace Go.Proofs.YtejhphnlickjlaaDoor.ty
open Go.ChangeShapes Go.WideShapes Go.RowKit
open M T W
set_option linter.unusedVariables false
section
variable {s t : ByteArray} {w : World} {p q f g : Bool} {k i o L x : Int} {m n : Nat}
set_option maxRecDepth 20000 in
set_option maxHeartbeats 1600000 in
theorem Conv2_n1 (PA : Hid (PtrD w k i o s false f)) (PB : Hid (PtrD w k i o t q g)) (BA : Hid (BitD s 0)) : Calls Tryd.prog 13 #[.string s, .string t, vT k i o] w fun e w' => e = .returned (.tuple #[vT 0 0 0, .int .i64 5]) ∧ Below w.heap.size w w' := by
  unfold vT
  have hn := EnvD.new w k i o
  go_enter Tryd.func13, Tryd.ntmps13
  go_wp2_with (first | (go_at_call_of 42 s; refine (PA.out _ hn).mono ?_; rintro e w1 ⟨rfl, h1⟩) | (go_at_call_of 42 t; refine (PB.out _ h1).mono ?_; rintro e w2 ⟨rfl, h2⟩; have H2 := Lib.hid h2; obtain ⟨r0, r1, r2, f0, f1, f2⟩ := h2.rr; obtain ⟨v0, v1, v2⟩ := h2.vv; clear h2) | (go_at_call_of 43 s; refine (BA.out _).mono ?_; rintro e w5 ⟨rfl, rfl⟩))
  try simp only [Exit.inBlock, Exit.then]
  refine bodyPost_ret (v := .tuple #[.agg #[.int .i64 0, .int .i64 0, .int .i64 0], .int .i64 5]) (by rw [results_cell_tmp rfl]; go_simp) rfl ?_
  exact ⟨rfl, H2.out.stored _ _ _⟩
set_option maxRecDepth 20000 in
set_option maxHeartbeats 1600000 in
theorem Conv2_n2 (PA : Hid (PtrD w k i o s false f)) (PB : Hid (PtrD w k i o t q g)) (BA : Hid (BitD s m)) (BB : Hid (BitD t 0)) (hm : (0 : Int) < m) : Calls Tryd.prog 13 #[.string s, .string t, vT k i o] w fun e w' => e = .returned (.tuple #[vT 0 0 0, .int .i64 5]) ∧ Below w.heap.size w w' := by
  unfold vT
  have hn := EnvD.new w k i o
  go_enter Tryd.func13, Tryd.ntmps13
  go_wp2_with (first | (go_at_call_of 42 s; refine (PA.out _ hn).mono ?_; rintro e w1 ⟨rfl, h1⟩) | (go_at_call_of 42 t; refine (PB.out _ h1).mono ?_; rintro e w2 ⟨rfl, h2⟩; have H2 := Lib.hid h2; obtain ⟨r0, r1, r2, f0, f1, f2⟩ := h2.rr; obtain ⟨v0, v1, v2⟩ := h2.vv; clear h2) | (go_at_call_of 43 s; refine (BA.out _).mono ?_; rintro e w5 ⟨rfl, rfl⟩) | (go_at_call_of 43 t; refine (BB.out _).mono ?_; rintro e w5 ⟨rfl, rfl⟩))
  try simp only [Exit.inBlock, Exit.then]
  refine bodyPost_ret (v := .tuple #[.agg #[.int .i64 0, .int .i64 0, .int .i64 0], .int .i64 5]) (by rw [results_cell_tmp rfl]; go_simp) rfl ?_
  exact ⟨rfl, H2.out.stored _ _ _⟩
set_option maxRecDepth 20000 in
set_option maxHeartbeats 1600000 in
theorem Conv2_n3 (PA : Hid (PtrD w k i o s true f)) (PB : Hid (PtrD w k i o t false g)) (BA : Hid (BitD s 0)) : Calls Tryd.prog 13 #[.string s, .string t, vT k i o] w fun e w' => e = .returned (.tuple #[vT 0 0 0, .int .i64 5]) ∧ Below w.heap.size w w' := by
  unfold vT
  have hn := EnvD.new w k i o
  go_enter Tryd.func13, Tryd.ntmps13
  go_wp2_with (first | (go_at_call_of 42 s; refine (PA.out _ hn).mono ?_; rintro e w1 ⟨rfl, h1⟩) | (go_at_call_of 42 t; refine (PB.out _ h1).mono ?_; rintro e w2 ⟨rfl, h2⟩; have H2 := Lib.hid h2; obtain ⟨r0, r1, r2, f0, f1, f2⟩ := h2.rr; obtain ⟨v0, v1, v2⟩ := h2.vv; clear h2) | (go_at_call_of 43 s; refine (BA.out _).mono ?_; rintro e w5 ⟨rfl, rfl⟩))
  try simp only [Exit.inBlock, Exit.then]
  refine bodyPost_ret (v := .tuple #[.agg #[.int .i64 0, .int .i64 0, .int .i64 0], .int .i64 5]) (by rw [results_cell_tmp rfl]; go_simp) rfl ?_
  exact ⟨rfl, H2.out.stored _ _ _⟩
set_option maxRecDepth 20000 in
set_option maxHeartbeats 1600000 in
theorem Conv2_n4 (PA : Hid (PtrD w k i o s true true)) (PB : Hid (PtrD w k i o t true false)) (BA : Hid (BitD s 0)) : Calls Tryd.prog 13 #[.string s, .string t, vT k i o] w fun e w' => e = .returned (.tuple #[vT 0 0 0, .int .i64 5]) ∧ Below w.heap.size w w' := by
  unfold vT
  have hn := EnvD.new w k i o
  go_enter Tryd.func13, Tryd.ntmps13
  go_wp2_with (first | (go_at_call_of 42 s; refine (PA.out _ hn).mono ?_; rintro e w1 ⟨rfl, h1⟩) | (go_at_call_of 42 t; refine (PB.out _ h1).mono ?_; rintro e w2 ⟨rfl, h2⟩; have H2 := Lib.hid h2; obtain ⟨r0, r1, r2, f0, f1, f2⟩ := h2.rr; obtain ⟨v0, v1, v2⟩ := h2.vv; clear h2) | (go_at_call_of 43 s; refine (BA.out _).mono ?_; rintro e w5 ⟨rfl, rfl⟩))
  try simp only [Exit.inBlock, Exit.then]
  refine bodyPost_ret (v := .tuple #[.agg #[.int .i64 0, .int .i64 0, .int .i64 0], .int .i64 5]) (by rw [results_cell_tmp rfl]; go_simp) rfl ?_
  exact ⟨rfl, H2.out.stored _ _ _⟩
set_option maxRecDepth 20000 in
set_option maxHeartbeats 1600000 in
theorem Conv2_n5 (PA : Hid (PtrD w k i o s true false)) (PB : Hid (PtrD w k i o t true true)) (BA : Hid (BitD s 0)) : Calls Tryd.prog 13 #[.string s, .string t, vT k i o] w fun e w' => e = .returned (.tuple #[vT 0 0 0, .int .i64 5]) ∧ Below w.heap.size w w' := by
  unfold vT
  have hn := EnvD.new w k i o
  go_enter Tryd.func13, Tryd.ntmps13
  go_wp2_with (first | (go_at_call_of 42 s; refine (PA.out _ hn).mono ?_; rintro e w1 ⟨rfl, h1⟩) | (go_at_call_of 42 t; refine (PB.out _ h1).mono ?_; rintro e w2 ⟨rfl, h2⟩; have H2 := Lib.hid h2; obtain ⟨r0, r1, r2, f0, f1, f2⟩ := h2.rr; obtain ⟨v0, v1, v2⟩ := h2.vv; clear h2) | (go_at_call_of 43 s; refine (BA.out _).mono ?_; rintro e w5 ⟨rfl, rfl⟩))
  try simp only [Exit.inBlock, Exit.then]
  refine bodyPost_ret (v := .tuple #[.agg #[.int .i64 0, .int .i64 0, .int .i64 0], .int .i64 5]) (by rw [results_cell_tmp rfl]; go_simp) rfl ?_
  exact ⟨rfl, H2.out.stored _ _ _⟩
end
end Go.Proofs.YtejhphnlickjlaaDoor.ty
namespace Go.Proofs.YtejhphnlickjlaaDoor.ty
open Go.ChangeShapes Go.WideShapes Go.RowKit
open M T W
set_option linter.unusedVariables false
section
variable {s t : ByteArray} {w : World} {p q f g : Bool} {k i o L x : Int} {m n : Nat}
set_option maxRecDepth 20000 in
set_option maxHeartbeats 1600000 in
theorem Conv2_y1 (PA : Hid (PtrD w k i o s p f)) (PB : Hid (PtrD w k i o t q g)) (BA : Hid (BitD s m)) (BB : Hid (BitD t n)) (hm : (0 : Int) < m) (hn2 : (0 : Int) < n) (HL : Hid (LookD w s k i o 49 L)) (HN : Hid (∀ W, Calls Tryd.prog 47 #[.string t, .int .i64 i] W fun e w' => e = .returned (.agg #[.int .i64 1, .int .i64 x, .int .i64 0]) ∧ Below W.heap.size W w')) : Calls Tryd.prog 13 #[.string s, .string t, vT k i o] w fun e w' => e = .returned (if L = 0 then .tuple #[vT 1 x 0, .int .i64 0] else .tuple #[vT 0 0 0, .int .i64 L]) ∧ Below w.heap.size w w' := by
  unfold vT
  have hn := EnvD.new w k i o
  by_cases hL : L = 0
  · subst hL
    go_enter Tryd.func13, Tryd.ntmps13
    go_wp2_with (first | (go_at_call_of 42 s; refine (PA.out _ hn).mono ?_; rintro e w1 ⟨rfl, h1⟩) | (go_at_call_of 42 t; refine (PB.out _ h1).mono ?_; rintro e w2 ⟨rfl, h2⟩; have H2 := Lib.hid h2; obtain ⟨r0, r1, r2, f0, f1, f2⟩ := h2.rr; obtain ⟨v0, v1, v2⟩ := h2.vv; clear h2) | (go_at_call_of 43 s; refine (BA.out _).mono ?_; rintro e w5 ⟨rfl, rfl⟩) | (go_at_call_of 43 t; refine (BB.out _).mono ?_; rintro e w5 ⟨rfl, rfl⟩) | (go_at_call 49; refine (HL.out _ _ _ (H2.out.alloc _) (heap_alloc_new _ _)).mono ?_; rintro e w3 ⟨rfl, h3⟩; have H3 := Lib.hid h3; obtain ⟨r0, r1, r2, f0, f1, f2⟩ := h3.rr; obtain ⟨v0, v1, v2⟩ := h3.vv; clear h3) | (go_at_call 47; refine (HN.out _).mono ?_; rintro e w4 ⟨rfl, hb4⟩; have h4 := H3.out.after hb4; have H4 := Lib.hid h4; obtain ⟨r0, r1, r2, f0, f1, f2⟩ := h4.rr; clear h4 hb4))
    try simp only [Exit.inBlock, Exit.then]
    refine bodyPost_ret (v := .tuple #[.agg #[.int .i64 1, .int .i64 x, .int .i64 0], .int .i64 0]) (by rw [results_cell_tmp rfl]; go_simp) rfl ?_
    exact ⟨by first | rfl | rw [if_pos rfl], H4.out.stored _ _ _⟩
  · have hL' : (L != 0) = true := by simpa using hL
    go_enter Tryd.func13, Tryd.ntmps13
    go_wp2_with (first | (go_at_call_of 42 s; refine (PA.out _ hn).mono ?_; rintro e w1 ⟨rfl, h1⟩) | (go_at_call_of 42 t; refine (PB.out _ h1).mono ?_; rintro e w2 ⟨rfl, h2⟩; have H2 := Lib.hid h2; obtain ⟨r0, r1, r2, f0, f1, f2⟩ := h2.rr; obtain ⟨v0, v1, v2⟩ := h2.vv; clear h2) | (go_at_call_of 43 s; refine (BA.out _).mono ?_; rintro e w5 ⟨rfl, rfl⟩) | (go_at_call_of 43 t; refine (BB.out _).mono ?_; rintro e w5 ⟨rfl, rfl⟩) | (go_at_call 49; refine (HL.out _ _ _ (H2.out.alloc _) (heap_alloc_new _ _)).mono ?_; rintro e w3 ⟨rfl, h3⟩; have H3 := Lib.hid h3; obtain ⟨r0, r1, r2, f0, f1, f2⟩ := h3.rr; obtain ⟨v0, v1, v2⟩ := h3.vv; clear h3))
    try simp only [Exit.inBlock, Exit.then]
    refine bodyPost_ret (v := .tuple #[.agg #[.int .i64 0, .int .i64 0, .int .i64 0], .int .i64 L]) (by rw [results_cell_tmp rfl]; go_simp) rfl ?_
    exact ⟨by first | rfl | rw [if_neg hL] | simp [hL], H3.out.stored _ _ _⟩
set_option maxRecDepth 20000 in
set_option maxHeartbeats 1600000 in
theorem Conv2_y2 (PA : Hid (PtrD w k i o s true true)) (PB : Hid (PtrD w k i o t true true)) (BA : Hid (BitD s 0)) (HL : Hid (LookD w s k i o 49 L)) : Calls Tryd.prog 13 #[.string s, .string t, vT k i o] w fun e w' => e = .returned (if L = 0 then .tuple #[vT k i o, .int .i64 0] else .tuple #[vT 0 0 0, .int .i64 L]) ∧ Below w.heap.size w w' := by
  unfold vT
  have hn := EnvD.new w k i o
  by_cases hL : L = 0
  · subst hL
    go_enter Tryd.func13, Tryd.ntmps13
    go_wp2_with (first | (go_at_call_of 42 s; refine (PA.out _ hn).mono ?_; rintro e w1 ⟨rfl, h1⟩) | (go_at_call_of 42 t; refine (PB.out _ h1).mono ?_; rintro e w2 ⟨rfl, h2⟩; have H2 := Lib.hid h2; obtain ⟨r0, r1, r2, f0, f1, f2⟩ := h2.rr; obtain ⟨v0, v1, v2⟩ := h2.vv; clear h2) | (go_at_call_of 43 s; refine (BA.out _).mono ?_; rintro e w5 ⟨rfl, rfl⟩) | (go_at_call 49; refine (HL.out _ _ _ (H2.out.alloc _) (heap_alloc_new _ _)).mono ?_; rintro e w3 ⟨rfl, h3⟩; have H3 := Lib.hid h3; obtain ⟨r0, r1, r2, f0, f1, f2⟩ := h3.rr; obtain ⟨v0, v1, v2⟩ := h3.vv; clear h3))
    try simp only [Exit.inBlock, Exit.then]
    refine bodyPost_ret (v := .tuple #[.agg #[.int .i64 k, .int .i64 i, .int .i64 o], .int .i64 0]) (by rw [results_cell_tmp rfl]; go_simp) rfl ?_
    exact ⟨by first | rfl | rw [if_pos rfl], H3.out.stored _ _ _⟩
  · have hL' : (L != 0) = true := by simpa using hL
    go_enter Tryd.func13, Tryd.ntmps13
    go_wp2_with (first | (go_at_call_of 42 s; refine (PA.out _ hn).mono ?_; rintro e w1 ⟨rfl, h1⟩) | (go_at_call_of 42 t; refine (PB.out _ h1).mono ?_; rintro e w2 ⟨rfl, h2⟩; have H2 := Lib.hid h2; obtain ⟨r0, r1, r2, f0, f1, f2⟩ := h2.rr; obtain ⟨v0, v1, v2⟩ := h2.vv; clear h2) | (go_at_call_of 43 s; refine (BA.out _).mono ?_; rintro e w5 ⟨rfl, rfl⟩) | (go_at_call 49; refine (HL.out _ _ _ (H2.out.alloc _) (heap_alloc_new _ _)).mono ?_; rintro e w3 ⟨rfl, h3⟩; have H3 := Lib.hid h3; obtain ⟨r0, r1, r2, f0, f1, f2⟩ := h3.rr; obtain ⟨v0, v1, v2⟩ := h3.vv; clear h3))
    try simp only [Exit.inBlock, Exit.then]
    refine bodyPost_ret (v := .tuple #[.agg #[.int .i64 0, .int .i64 0, .int .i64 0], .int .i64 L]) (by rw [results_cell_tmp rfl]; go_simp) rfl ?_
    exact ⟨by first | rfl | rw [if_neg hL] | simp [hL], H3.out.stored _ _ _⟩
set_option maxRecDepth 20000 in
set_option maxHeartbeats 1600000 in
theorem Conv2_y3 (PA : Hid (PtrD w k i o s true false)) (PB : Hid (PtrD w k i o t true false)) (BA : Hid (BitD s 0)) (HL : Hid (LookD w s k i o 49 L)) : Calls Tryd.prog 13 #[.string s, .string t, vT k i o] w fun e w' => e = .returned (if L = 0 then .tuple #[vT k i o, .int .i64 0] else .tuple #[vT 0 0 0, .int .i64 L]) ∧ Below w.heap.size w w' := by
  unfold vT
  have hn := EnvD.new w k i o
  by_cases hL : L = 0
  · subst hL
    go_enter Tryd.func13, Tryd.ntmps13
    go_wp2_with (first | (go_at_call_of 42 s; refine (PA.out _ hn).mono ?_; rintro e w1 ⟨rfl, h1⟩) | (go_at_call_of 42 t; refine (PB.out _ h1).mono ?_; rintro e w2 ⟨rfl, h2⟩; have H2 := Lib.hid h2; obtain ⟨r0, r1, r2, f0, f1, f2⟩ := h2.rr; obtain ⟨v0, v1, v2⟩ := h2.vv; clear h2) | (go_at_call_of 43 s; refine (BA.out _).mono ?_; rintro e w5 ⟨rfl, rfl⟩) | (go_at_call 49; refine (HL.out _ _ _ (H2.out.alloc _) (heap_alloc_new _ _)).mono ?_; rintro e w3 ⟨rfl, h3⟩; have H3 := Lib.hid h3; obtain ⟨r0, r1, r2, f0, f1, f2⟩ := h3.rr; obtain ⟨v0, v1, v2⟩ := h3.vv; clear h3))
    try simp only [Exit.inBlock, Exit.then]
    refine bodyPost_ret (v := .tuple #[.agg #[.int .i64 k, .int .i64 i, .int .i64 o], .int .i64 0]) (by rw [results_cell_tmp rfl]; go_simp) rfl ?_
    exact ⟨by first | rfl | rw [if_pos rfl], H3.out.stored _ _ _⟩
  · have hL' : (L != 0) = true := by simpa using hL
    go_enter Tryd.func13, Tryd.ntmps13
    go_wp2_with (first | (go_at_call_of 42 s; refine (PA.out _ hn).mono ?_; rintro e w1 ⟨rfl, h1⟩) | (go_at_call_of 42 t; refine (PB.out _ h1).mono ?_; rintro e w2 ⟨rfl, h2⟩; have H2 := Lib.hid h2; obtain ⟨r0, r1, r2, f0, f1, f2⟩ := h2.rr; obtain ⟨v0, v1, v2⟩ := h2.vv; clear h2) | (go_at_call_of 43 s; refine (BA.out _).mono ?_; rintro e w5 ⟨rfl, rfl⟩) | (go_at_call 49; refine (HL.out _ _ _ (H2.out.alloc _) (heap_alloc_new _ _)).mono ?_; rintro e w3 ⟨rfl, h3⟩; have H3 := Lib.hid h3; obtain ⟨r0, r1, r2, f0, f1, f2⟩ := h3.rr; obtain ⟨v0, v1, v2⟩ := h3.vv; clear h3))
    try simp only [Exit.inBlock, Exit.then]
    refine bodyPost_ret (v := .tuple #[.agg #[.int .i64 0, .int .i64 0, .int .i64 0], .int .i64 L]) (by rw [results_cell_tmp rfl]; go_simp) rfl ?_
    exact ⟨by first | rfl | rw [if_neg hL] | simp [hL], H3.out.stored _ _ _⟩
end
end Go.Proofs.YtejhphnlickjlaaDoor.ty
