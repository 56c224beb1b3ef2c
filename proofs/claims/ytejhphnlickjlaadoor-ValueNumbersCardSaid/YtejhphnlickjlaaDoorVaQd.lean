/-
  The contract of Conv of package value: pointers. Condition: the table of keywords stands in memory.
-/
import Derived.Test.YtejhphnlickjlaaDoorVaQ
import Derived.Deep.RegionWith
namespace Go.Proofs.YtejhphnlickjlaaDoor.ty
open Go.ChangeShapes Go.WideShapes Go.RowKit
open M T W
set_option linter.unusedVariables false
section
variable {s t : ByteArray} {w : World} {wa wb pa pb ca cb : Bool} {k i o L x : Int}
set_option maxRecDepth 20000 in
set_option maxHeartbeats 3200000 in
theorem Conv_y1 (HA : Hid (SortC w s t k i o 38 s true)) (HB : Hid (SortC w s t k i o 38 t true)) (HL : Hid (LookC w s t k i o L)) (HI : Hid (∀ W, Calls Tryd.prog 10 #[.string t, .int .i64 i] W fun e w' => e = .returned (.tuple #[.agg #[.int .i64 1, .int .i64 x, .int .i64 0], .int .i64 0]) ∧ Below W.heap.size W w')) : Calls Tryd.prog 12 #[.string s, .string t, vT k i o] w fun e w' => e = .returned (if L = 0 then .tuple #[vT 1 x 0, .int .i64 0] else .tuple #[vT 0 0 0, .int .i64 L]) ∧ Below w.heap.size w w' := by
  unfold vT
  have hd := (EnvC.new w s t k i o).drew
  go_enter Tryd.func12, Tryd.ntmps12
  go_wp2_with fail
  generalize (((w.alloc (.cells #[.int .i64 k, .int .i64 i, .int .i64 o] 24)).alloc (.cells #[.int .i64 0, .int .i64 0, .int .i64 0] 24)).alloc (.cells #[.string s] 72)).alloc (.cells #[.string t] 72) = W0 at *
  refine region_class (C := fun W => EnvC w W s t k i o) (by kernel_rfl) (by kernel_rfl) hd ?_
  repeat (first | (refine q_skip (a' := ?_) (by rfl) ?_ ?_; rotate_left; (focus (simp only [Act.put, List.setIfInBounds_toArray, List.set_cons_zero, List.set_cons_succ]; with_reducible rfl))) | (refine q_take (v := ?_) (a' := ?_) (by rfl) (fun W hW => ?_) ?_ ?_; rotate_left 2; (focus (obtain ⟨ca, cb⟩ := EnvC.ab hW; unfold Oper.quietAt; go_simp; first | done | (with_reducible rfl) | (with_reducible exact SortC.get HA.out hW) | (with_reducible exact SortC.get HB.out hW) | rfl | exact ⟨rfl, rfl⟩)); (focus (simp only [Act.put, List.setIfInBounds_toArray, List.set_cons_zero, List.set_cons_succ]; with_reducible rfl))))
  refine q_nil ?_
  intro w1 h1
  all_goals
    obtain ⟨v0, v1, v2⟩ := h1.vv
    by_cases hL : L = 0
    · subst hL
      have H1 := Lib.hid h1
      go_wp2_with (first | (go_at_call 48; refine (HL.out _ _ _ (by first | exact EnvC.alloc (by assumption) _) (heap_alloc_new _ _)).mono ?_; rintro e w2 ⟨rfl, h2⟩; have H2 := Lib.hid h2; obtain ⟨ca2, cb2⟩ := h2.ab; obtain ⟨r0, r1, r2, f0, f1, f2⟩ := h2.rr; obtain ⟨v0, v1, v2⟩ := h2.vv) | (go_at_call 38; refine (HA.out _ H2.out).mono ?_; rintro e w3 ⟨rfl, h3⟩; have H3 := Lib.hid h3; obtain ⟨ca3, cb3⟩ := h3.ab; obtain ⟨r0, r1, r2, f0, f1, f2⟩ := h3.rr; obtain ⟨v0, v1, v2⟩ := h3.vv) | (go_at_call 10; refine (HI.out _).mono ?_; rintro e w4 ⟨rfl, hb4⟩; have h4 := H3.out.after hb4; have H4 := Lib.hid h4; obtain ⟨r0, r1, r2, f0, f1, f2⟩ := h4.rr))
      try simp only [Exit.inBlock, Exit.then]
      refine bodyPost_ret (v := .tuple #[.agg #[.int .i64 1, .int .i64 x, .int .i64 0], .int .i64 0]) (by rw [results_cell_tmp rfl]; go_simp) rfl ?_
      exact ⟨rfl, H4.out.stored _ _ _⟩
    · have hL' : (L != 0) = true := by simpa using hL
      go_wp2_with (first | (go_at_call 48; refine (HL.out _ _ _ (by first | exact EnvC.alloc (by assumption) _) (heap_alloc_new _ _)).mono ?_; rintro e w2 ⟨rfl, h2⟩; have H2 := Lib.hid h2; obtain ⟨ca2, cb2⟩ := h2.ab; obtain ⟨r0, r1, r2, f0, f1, f2⟩ := h2.rr; obtain ⟨v0, v1, v2⟩ := h2.vv))
      try simp only [Exit.inBlock, Exit.then]
      refine bodyPost_ret (v := .tuple #[.agg #[.int .i64 0, .int .i64 0, .int .i64 0], .int .i64 L]) (by rw [results_cell_tmp rfl]; go_simp) rfl ?_
      exact ⟨rfl, H2.out.stored _ _ _⟩
end
end Go.Proofs.YtejhphnlickjlaaDoor.ty
namespace Go.Proofs.YtejhphnlickjlaaDoor.ty
open Go.ChangeShapes Go.WideShapes Go.RowKit
open M T W
set_option linter.unusedVariables false
section
variable {s t : ByteArray} {w : World} {wa wb pa pb ca cb : Bool} {k i o L x : Int}
set_option maxRecDepth 20000 in
set_option maxHeartbeats 3200000 in
theorem Conv_y2 (HA : Hid (SortC w s t k i o 38 s false)) (PA : Hid (SortC w s t k i o 39 s true)) (PB : Hid (SortC w s t k i o 39 t true)) (CA : Hid (SortC w s t k i o 41 s true)) (CB : Hid (SortC w s t k i o 41 t true)) (HL : Hid (LookC w s t k i o L)) : Calls Tryd.prog 12 #[.string s, .string t, vT k i o] w fun e w' => e = .returned (if L = 0 then .tuple #[vT k i o, .int .i64 0] else .tuple #[vT 0 0 0, .int .i64 L]) ∧ Below w.heap.size w w' := by
  unfold vT
  have hd := (EnvC.new w s t k i o).drew
  go_enter Tryd.func12, Tryd.ntmps12
  go_wp2_with fail
  generalize (((w.alloc (.cells #[.int .i64 k, .int .i64 i, .int .i64 o] 24)).alloc (.cells #[.int .i64 0, .int .i64 0, .int .i64 0] 24)).alloc (.cells #[.string s] 72)).alloc (.cells #[.string t] 72) = W0 at *
  refine region_class (C := fun W => EnvC w W s t k i o) (by kernel_rfl) (by kernel_rfl) hd ?_
  repeat (first | (refine q_skip (a' := ?_) (by rfl) ?_ ?_; rotate_left; (focus (simp only [Act.put, List.setIfInBounds_toArray, List.set_cons_zero, List.set_cons_succ]; with_reducible rfl))) | (refine q_take (v := ?_) (a' := ?_) (by rfl) (fun W hW => ?_) ?_ ?_; rotate_left 2; (focus (obtain ⟨ca, cb⟩ := EnvC.ab hW; unfold Oper.quietAt; go_simp; first | done | (with_reducible rfl) | (with_reducible exact SortC.get HA.out hW) | (with_reducible exact SortC.get PA.out hW) | (with_reducible exact SortC.get PB.out hW) | (with_reducible exact SortC.get CA.out hW) | (with_reducible exact SortC.get CB.out hW) | rfl | exact ⟨rfl, rfl⟩)); (focus (simp only [Act.put, List.setIfInBounds_toArray, List.set_cons_zero, List.set_cons_succ]; with_reducible rfl))))
  refine q_nil ?_
  intro w1 h1
  all_goals
    obtain ⟨v0, v1, v2⟩ := h1.vv
    by_cases hL : L = 0
    · subst hL
      have H1 := Lib.hid h1
      go_wp2_with (first | (go_at_call 48; refine (HL.out _ _ _ (by first | exact EnvC.alloc (by assumption) _) (heap_alloc_new _ _)).mono ?_; rintro e w2 ⟨rfl, h2⟩; have H2 := Lib.hid h2; obtain ⟨ca2, cb2⟩ := h2.ab; obtain ⟨r0, r1, r2, f0, f1, f2⟩ := h2.rr; obtain ⟨v0, v1, v2⟩ := h2.vv) | (go_at_call 38; refine (HA.out _ H2.out).mono ?_; rintro e w3 ⟨rfl, h3⟩; have H3 := Lib.hid h3; obtain ⟨ca3, cb3⟩ := h3.ab; obtain ⟨r0, r1, r2, f0, f1, f2⟩ := h3.rr; obtain ⟨v0, v1, v2⟩ := h3.vv) | fail)
      try simp only [Exit.inBlock, Exit.then]
      refine bodyPost_ret (v := .tuple #[.agg #[.int .i64 k, .int .i64 i, .int .i64 o], .int .i64 0]) (by rw [results_cell_tmp rfl]; go_simp) rfl ?_
      exact ⟨rfl, H3.out.stored _ _ _⟩
    · have hL' : (L != 0) = true := by simpa using hL
      go_wp2_with (first | (go_at_call 48; refine (HL.out _ _ _ (by first | exact EnvC.alloc (by assumption) _) (heap_alloc_new _ _)).mono ?_; rintro e w2 ⟨rfl, h2⟩; have H2 := Lib.hid h2; obtain ⟨ca2, cb2⟩ := h2.ab; obtain ⟨r0, r1, r2, f0, f1, f2⟩ := h2.rr; obtain ⟨v0, v1, v2⟩ := h2.vv))
      try simp only [Exit.inBlock, Exit.then]
      refine bodyPost_ret (v := .tuple #[.agg #[.int .i64 0, .int .i64 0, .int .i64 0], .int .i64 L]) (by rw [results_cell_tmp rfl]; go_simp) rfl ?_
      exact ⟨rfl, H2.out.stored _ _ _⟩
set_option maxRecDepth 20000 in
set_option maxHeartbeats 3200000 in
theorem Conv_y3 (HA : Hid (SortC w s t k i o 38 s false)) (PA : Hid (SortC w s t k i o 39 s true)) (PB : Hid (SortC w s t k i o 39 t true)) (CA : Hid (SortC w s t k i o 41 s false)) (CB : Hid (SortC w s t k i o 41 t false)) (HL : Hid (LookC w s t k i o L)) : Calls Tryd.prog 12 #[.string s, .string t, vT k i o] w fun e w' => e = .returned (if L = 0 then .tuple #[vT k i o, .int .i64 0] else .tuple #[vT 0 0 0, .int .i64 L]) ∧ Below w.heap.size w w' := by
  unfold vT
  have hd := (EnvC.new w s t k i o).drew
  go_enter Tryd.func12, Tryd.ntmps12
  go_wp2_with fail
  generalize (((w.alloc (.cells #[.int .i64 k, .int .i64 i, .int .i64 o] 24)).alloc (.cells #[.int .i64 0, .int .i64 0, .int .i64 0] 24)).alloc (.cells #[.string s] 72)).alloc (.cells #[.string t] 72) = W0 at *
  refine region_class (C := fun W => EnvC w W s t k i o) (by kernel_rfl) (by kernel_rfl) hd ?_
  repeat (first | (refine q_skip (a' := ?_) (by rfl) ?_ ?_; rotate_left; (focus (simp only [Act.put, List.setIfInBounds_toArray, List.set_cons_zero, List.set_cons_succ]; with_reducible rfl))) | (refine q_take (v := ?_) (a' := ?_) (by rfl) (fun W hW => ?_) ?_ ?_; rotate_left 2; (focus (obtain ⟨ca, cb⟩ := EnvC.ab hW; unfold Oper.quietAt; go_simp; first | done | (with_reducible rfl) | (with_reducible exact SortC.get HA.out hW) | (with_reducible exact SortC.get PA.out hW) | (with_reducible exact SortC.get PB.out hW) | (with_reducible exact SortC.get CA.out hW) | (with_reducible exact SortC.get CB.out hW) | rfl | exact ⟨rfl, rfl⟩)); (focus (simp only [Act.put, List.setIfInBounds_toArray, List.set_cons_zero, List.set_cons_succ]; with_reducible rfl))))
  refine q_nil ?_
  intro w1 h1
  all_goals
    obtain ⟨v0, v1, v2⟩ := h1.vv
    by_cases hL : L = 0
    · subst hL
      have H1 := Lib.hid h1
      go_wp2_with (first | (go_at_call 48; refine (HL.out _ _ _ (by first | exact EnvC.alloc (by assumption) _) (heap_alloc_new _ _)).mono ?_; rintro e w2 ⟨rfl, h2⟩; have H2 := Lib.hid h2; obtain ⟨ca2, cb2⟩ := h2.ab; obtain ⟨r0, r1, r2, f0, f1, f2⟩ := h2.rr; obtain ⟨v0, v1, v2⟩ := h2.vv) | (go_at_call 38; refine (HA.out _ H2.out).mono ?_; rintro e w3 ⟨rfl, h3⟩; have H3 := Lib.hid h3; obtain ⟨ca3, cb3⟩ := h3.ab; obtain ⟨r0, r1, r2, f0, f1, f2⟩ := h3.rr; obtain ⟨v0, v1, v2⟩ := h3.vv) | fail)
      try simp only [Exit.inBlock, Exit.then]
      refine bodyPost_ret (v := .tuple #[.agg #[.int .i64 k, .int .i64 i, .int .i64 o], .int .i64 0]) (by rw [results_cell_tmp rfl]; go_simp) rfl ?_
      exact ⟨rfl, H3.out.stored _ _ _⟩
    · have hL' : (L != 0) = true := by simpa using hL
      go_wp2_with (first | (go_at_call 48; refine (HL.out _ _ _ (by first | exact EnvC.alloc (by assumption) _) (heap_alloc_new _ _)).mono ?_; rintro e w2 ⟨rfl, h2⟩; have H2 := Lib.hid h2; obtain ⟨ca2, cb2⟩ := h2.ab; obtain ⟨r0, r1, r2, f0, f1, f2⟩ := h2.rr; obtain ⟨v0, v1, v2⟩ := h2.vv))
      try simp only [Exit.inBlock, Exit.then]
      refine bodyPost_ret (v := .tuple #[.agg #[.int .i64 0, .int .i64 0, .int .i64 0], .int .i64 L]) (by rw [results_cell_tmp rfl]; go_simp) rfl ?_
      exact ⟨rfl, H2.out.stored _ _ _⟩
end
end Go.Proofs.YtejhphnlickjlaaDoor.ty
