/-
  The contract of Conv of package value: pointers of sorts that do not fit. Condition: the table of keywords stands in memory.
-/
import Derived.Test.YtejhphnlickjlaaDoorVaQ
import Derived.Deep.RegionWith
namespace Go.Proofs.YtejhphnlickjlaaDoor.ty
open Go.ChangeShapes Go.WideShapes Go.RowKit
open M T W
set_option linter.unusedVariables false
section
variable {s t : ByteArray} {w : World} {wa wb pa pb ca cb : Bool} {k i o L x : Int}
set_option maxRecDepth 20000 in
set_option maxHeartbeats 1600000 in
theorem Conv_n1 (HA : Hid (SortC w s t k i o 38 s false)) (PA : Hid (SortC w s t k i o 39 s false)) : Calls Tryd.prog 12 #[.string s, .string t, vT k i o] w fun e w' => e = .returned (.tuple #[vT 0 0 0, .int .i64 5]) ∧ Below w.heap.size w w' := by
  unfold vT
  have hd := (EnvC.new w s t k i o).drew
  go_enter Tryd.func12, Tryd.ntmps12
  go_wp2_with fail
  generalize (((w.alloc (.cells #[.int .i64 k, .int .i64 i, .int .i64 o] 24)).alloc (.cells #[.int .i64 0, .int .i64 0, .int .i64 0] 24)).alloc (.cells #[.string s] 72)).alloc (.cells #[.string t] 72) = W0 at *
  refine region_class (C := fun W => EnvC w W s t k i o) (by kernel_rfl) (by kernel_rfl) hd ?_
  repeat (first | (refine q_skip (a' := ?_) (by rfl) ?_ ?_; rotate_left; (focus (simp only [Act.put, List.setIfInBounds_toArray, List.set_cons_zero, List.set_cons_succ]; with_reducible rfl))) | (refine q_take (v := ?_) (a' := ?_) (by rfl) (fun W hW => ?_) ?_ ?_; rotate_left 2; (focus (obtain ⟨ca, cb⟩ := EnvC.ab hW; unfold Oper.quietAt; go_simp; first | done | (with_reducible rfl) | (with_reducible exact SortC.get HA.out hW) | (with_reducible exact SortC.get PA.out hW) | rfl | exact ⟨rfl, rfl⟩)); (focus (simp only [Act.put, List.setIfInBounds_toArray, List.set_cons_zero, List.set_cons_succ]; with_reducible rfl))))
  refine q_nil ?_
  intro w1 h1
  all_goals
    obtain ⟨r0, r1, r2, f0, f1, f2⟩ := h1.rr
    have H1 := Lib.hid h1
    clear h1
    go_wp2_with fail
    try simp only [Exit.inBlock, Exit.then]
    refine bodyPost_ret (v := .tuple #[.agg #[.int .i64 0, .int .i64 0, .int .i64 0], .int .i64 5]) (by rw [results_cell_tmp rfl]; go_simp) rfl ?_
    exact ⟨rfl, H1.out.stored _ _ _⟩
set_option maxRecDepth 20000 in
set_option maxHeartbeats 1600000 in
theorem Conv_n2 (HA : Hid (SortC w s t k i o 38 s true)) (HB : Hid (SortC w s t k i o 38 t false)) (PA : Hid (SortC w s t k i o 39 s false)) : Calls Tryd.prog 12 #[.string s, .string t, vT k i o] w fun e w' => e = .returned (.tuple #[vT 0 0 0, .int .i64 5]) ∧ Below w.heap.size w w' := by
  unfold vT
  have hd := (EnvC.new w s t k i o).drew
  go_enter Tryd.func12, Tryd.ntmps12
  go_wp2_with fail
  generalize (((w.alloc (.cells #[.int .i64 k, .int .i64 i, .int .i64 o] 24)).alloc (.cells #[.int .i64 0, .int .i64 0, .int .i64 0] 24)).alloc (.cells #[.string s] 72)).alloc (.cells #[.string t] 72) = W0 at *
  refine region_class (C := fun W => EnvC w W s t k i o) (by kernel_rfl) (by kernel_rfl) hd ?_
  repeat (first | (refine q_skip (a' := ?_) (by rfl) ?_ ?_; rotate_left; (focus (simp only [Act.put, List.setIfInBounds_toArray, List.set_cons_zero, List.set_cons_succ]; with_reducible rfl))) | (refine q_take (v := ?_) (a' := ?_) (by rfl) (fun W hW => ?_) ?_ ?_; rotate_left 2; (focus (obtain ⟨ca, cb⟩ := EnvC.ab hW; unfold Oper.quietAt; go_simp; first | done | (with_reducible rfl) | (with_reducible exact SortC.get HA.out hW) | (with_reducible exact SortC.get HB.out hW) | (with_reducible exact SortC.get PA.out hW) | rfl | exact ⟨rfl, rfl⟩)); (focus (simp only [Act.put, List.setIfInBounds_toArray, List.set_cons_zero, List.set_cons_succ]; with_reducible rfl))))
  refine q_nil ?_
  intro w1 h1
  all_goals
    obtain ⟨r0, r1, r2, f0, f1, f2⟩ := h1.rr
    have H1 := Lib.hid h1
    clear h1
    go_wp2_with fail
    try simp only [Exit.inBlock, Exit.then]
    refine bodyPost_ret (v := .tuple #[.agg #[.int .i64 0, .int .i64 0, .int .i64 0], .int .i64 5]) (by rw [results_cell_tmp rfl]; go_simp) rfl ?_
    exact ⟨rfl, H1.out.stored _ _ _⟩
set_option maxRecDepth 20000 in
set_option maxHeartbeats 1600000 in
theorem Conv_n3 (HA : Hid (SortC w s t k i o 38 s false)) (PA : Hid (SortC w s t k i o 39 s true)) (PB : Hid (SortC w s t k i o 39 t false)) : Calls Tryd.prog 12 #[.string s, .string t, vT k i o] w fun e w' => e = .returned (.tuple #[vT 0 0 0, .int .i64 5]) ∧ Below w.heap.size w w' := by
  unfold vT
  have hd := (EnvC.new w s t k i o).drew
  go_enter Tryd.func12, Tryd.ntmps12
  go_wp2_with fail
  generalize (((w.alloc (.cells #[.int .i64 k, .int .i64 i, .int .i64 o] 24)).alloc (.cells #[.int .i64 0, .int .i64 0, .int .i64 0] 24)).alloc (.cells #[.string s] 72)).alloc (.cells #[.string t] 72) = W0 at *
  refine region_class (C := fun W => EnvC w W s t k i o) (by kernel_rfl) (by kernel_rfl) hd ?_
  repeat (first | (refine q_skip (a' := ?_) (by rfl) ?_ ?_; rotate_left; (focus (simp only [Act.put, List.setIfInBounds_toArray, List.set_cons_zero, List.set_cons_succ]; with_reducible rfl))) | (refine q_take (v := ?_) (a' := ?_) (by rfl) (fun W hW => ?_) ?_ ?_; rotate_left 2; (focus (obtain ⟨ca, cb⟩ := EnvC.ab hW; unfold Oper.quietAt; go_simp; first | done | (with_reducible rfl) | (with_reducible exact SortC.get HA.out hW) | (with_reducible exact SortC.get PA.out hW) | (with_reducible exact SortC.get PB.out hW) | rfl | exact ⟨rfl, rfl⟩)); (focus (simp only [Act.put, List.setIfInBounds_toArray, List.set_cons_zero, List.set_cons_succ]; with_reducible rfl))))
  refine q_nil ?_
  intro w1 h1
  all_goals
    obtain ⟨r0, r1, r2, f0, f1, f2⟩ := h1.rr
    have H1 := Lib.hid h1
    clear h1
    go_wp2_with fail
    try simp only [Exit.inBlock, Exit.then]
    refine bodyPost_ret (v := .tuple #[.agg #[.int .i64 0, .int .i64 0, .int .i64 0], .int .i64 5]) (by rw [results_cell_tmp rfl]; go_simp) rfl ?_
    exact ⟨rfl, H1.out.stored _ _ _⟩
end
end Go.Proofs.YtejhphnlickjlaaDoor.ty
namespace Go.Proofs.YtejhphnlickjlaaDoor.ty
open Go.ChangeShapes Go.WideShapes Go.RowKit
open M T W
set_option linter.unusedVariables false
section
variable {s t : ByteArray} {w : World} {wa wb pa pb ca cb : Bool} {k i o L x : Int}
set_option maxRecDepth 20000 in
set_option maxHeartbeats 1600000 in
theorem Conv_n4 (HA : Hid (SortC w s t k i o 38 s false)) (PA : Hid (SortC w s t k i o 39 s true)) (PB : Hid (SortC w s t k i o 39 t true)) (CA : Hid (SortC w s t k i o 41 s true)) (CB : Hid (SortC w s t k i o 41 t false)) : Calls Tryd.prog 12 #[.string s, .string t, vT k i o] w fun e w' => e = .returned (.tuple #[vT 0 0 0, .int .i64 5]) ∧ Below w.heap.size w w' := by
  unfold vT
  have hd := (EnvC.new w s t k i o).drew
  go_enter Tryd.func12, Tryd.ntmps12
  go_wp2_with fail
  generalize (((w.alloc (.cells #[.int .i64 k, .int .i64 i, .int .i64 o] 24)).alloc (.cells #[.int .i64 0, .int .i64 0, .int .i64 0] 24)).alloc (.cells #[.string s] 72)).alloc (.cells #[.string t] 72) = W0 at *
  refine region_class (C := fun W => EnvC w W s t k i o) (by kernel_rfl) (by kernel_rfl) hd ?_
  repeat (first | (refine q_skip (a' := ?_) (by rfl) ?_ ?_; rotate_left; (focus (simp only [Act.put, List.setIfInBounds_toArray, List.set_cons_zero, List.set_cons_succ]; with_reducible rfl))) | (refine q_take (v := ?_) (a' := ?_) (by rfl) (fun W hW => ?_) ?_ ?_; rotate_left 2; (focus (obtain ⟨ca, cb⟩ := EnvC.ab hW; unfold Oper.quietAt; go_simp; first | done | (with_reducible rfl) | (with_reducible exact SortC.get HA.out hW) | (with_reducible exact SortC.get PA.out hW) | (with_reducible exact SortC.get PB.out hW) | (with_reducible exact SortC.get CA.out hW) | (with_reducible exact SortC.get CB.out hW) | rfl | exact ⟨rfl, rfl⟩)); (focus (simp only [Act.put, List.setIfInBounds_toArray, List.set_cons_zero, List.set_cons_succ]; with_reducible rfl))))
  refine q_nil ?_
  intro w1 h1
  all_goals
    obtain ⟨r0, r1, r2, f0, f1, f2⟩ := h1.rr
    have H1 := Lib.hid h1
    clear h1
    go_wp2_with fail
    try simp only [Exit.inBlock, Exit.then]
    refine bodyPost_ret (v := .tuple #[.agg #[.int .i64 0, .int .i64 0, .int .i64 0], .int .i64 5]) (by rw [results_cell_tmp rfl]; go_simp) rfl ?_
    exact ⟨rfl, H1.out.stored _ _ _⟩
set_option maxRecDepth 20000 in
set_option maxHeartbeats 1600000 in
theorem Conv_n5 (HA : Hid (SortC w s t k i o 38 s false)) (PA : Hid (SortC w s t k i o 39 s true)) (PB : Hid (SortC w s t k i o 39 t true)) (CA : Hid (SortC w s t k i o 41 s false)) (CB : Hid (SortC w s t k i o 41 t true)) : Calls Tryd.prog 12 #[.string s, .string t, vT k i o] w fun e w' => e = .returned (.tuple #[vT 0 0 0, .int .i64 5]) ∧ Below w.heap.size w w' := by
  unfold vT
  have hd := (EnvC.new w s t k i o).drew
  go_enter Tryd.func12, Tryd.ntmps12
  go_wp2_with fail
  generalize (((w.alloc (.cells #[.int .i64 k, .int .i64 i, .int .i64 o] 24)).alloc (.cells #[.int .i64 0, .int .i64 0, .int .i64 0] 24)).alloc (.cells #[.string s] 72)).alloc (.cells #[.string t] 72) = W0 at *
  refine region_class (C := fun W => EnvC w W s t k i o) (by kernel_rfl) (by kernel_rfl) hd ?_
  repeat (first | (refine q_skip (a' := ?_) (by rfl) ?_ ?_; rotate_left; (focus (simp only [Act.put, List.setIfInBounds_toArray, List.set_cons_zero, List.set_cons_succ]; with_reducible rfl))) | (refine q_take (v := ?_) (a' := ?_) (by rfl) (fun W hW => ?_) ?_ ?_; rotate_left 2; (focus (obtain ⟨ca, cb⟩ := EnvC.ab hW; unfold Oper.quietAt; go_simp; first | done | (with_reducible rfl) | (with_reducible exact SortC.get HA.out hW) | (with_reducible exact SortC.get PA.out hW) | (with_reducible exact SortC.get PB.out hW) | (with_reducible exact SortC.get CA.out hW) | (with_reducible exact SortC.get CB.out hW) | rfl | exact ⟨rfl, rfl⟩)); (focus (simp only [Act.put, List.setIfInBounds_toArray, List.set_cons_zero, List.set_cons_succ]; with_reducible rfl))))
  refine q_nil ?_
  intro w1 h1
  all_goals
    obtain ⟨r0, r1, r2, f0, f1, f2⟩ := h1.rr
    have H1 := Lib.hid h1
    clear h1
    go_wp2_with fail
    try simp only [Exit.inBlock, Exit.then]
    refine bodyPost_ret (v := .tuple #[.agg #[.int .i64 0, .int .i64 0, .int .i64 0], .int .i64 5]) (by rw [results_cell_tmp rfl]; go_simp) rfl ?_
    exact ⟨rfl, H1.out.stored _ _ _⟩
end
end Go.Proofs.YtejhphnlickjlaaDoor.ty
