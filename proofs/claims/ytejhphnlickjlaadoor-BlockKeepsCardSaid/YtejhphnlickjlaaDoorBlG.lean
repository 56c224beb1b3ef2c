/-
  The contract of Add of package block. Condition: a store stands in memory.
-/
import Derived.Test.YtejhphnlickjlaaDoorBlF
import Derived.Test.YtejhphnlickjlaaDoorBlC
import Derived.Deep.RegionWith
import Derived.Handy
set_option linter.unusedVariables false
set_option linter.unusedSimpArgs false
namespace Go.Proofs.YtejhphnlickjlaaDoor.bl
open Go.RowKit
open M ty
set_option linter.unusedVariables false
/-- the variables: the value, the result -/
structure EnvD (w W : World) (k i o : Int) : Prop where
  below : Below w.heap.size w W
  v : W.heap[w.heap.size]? = some (.cells #[.int .i64 k, .int .i64 i, .int .i64 o] 24 (0, 0))
  r : W.heap[w.heap.size + 1]? = some (.cells #[.int .i64 0, .int .i64 0, .int .i64 0] 24 (0, 0))
section
variable {w : World} {k i o : Int}
theorem EnvD.after {W W' : World} (h : EnvD w W k i o) (hb : Below W.heap.size W W') : EnvD w W' k i o := by
  have l : ∀ {q x}, W.heap[q]? = some x → W'.heap[q]? = some x := fun {q x} hq => (hb.block q (Array.getElem?_eq_some_iff.1 hq).1).trans hq
  exact ⟨h.below.trans (hb.mono h.below.size), l h.v, l h.r⟩
theorem EnvD.alloc {W : World} (h : EnvD w W k i o) (b : Obj) : EnvD w (W.alloc b) k i o := h.after ((Below.refl _ _).alloc (Nat.le_refl _) _)
theorem EnvD.new (w : World) (k i o : Int) : EnvD w ((w.alloc (.cells #[.int .i64 k, .int .i64 i, .int .i64 o] 24)).alloc (.cells #[.int .i64 0, .int .i64 0, .int .i64 0] 24)) k i o := by
  have e1 := heap_alloc_new w (.cells #[.int .i64 k, .int .i64 i, .int .i64 o] 24)
  generalize hW1 : w.alloc (.cells #[.int .i64 k, .int .i64 i, .int .i64 o] 24) = W1 at *
  have s1 : W1.heap.size = w.heap.size + 1 := by rw [← hW1]; simp
  have b1 : Below w.heap.size w W1 := by rw [← hW1]; exact (Below.refl _ _).alloc (Nat.le_refl _) _
  have e2 := heap_alloc_new W1 (.cells #[.int .i64 0, .int .i64 0, .int .i64 0] 24)
  have b2 : Below W1.heap.size W1 (W1.alloc (.cells #[.int .i64 0, .int .i64 0, .int .i64 0] 24)) := (Below.refl _ _).alloc (Nat.le_refl _) _
  rw [s1] at e2; rw [s1] at b2
  exact ⟨b1.trans (b2.mono (by omega)), by rw [b2.block _ (by omega)]; exact e1, e2⟩
theorem EnvD.vv {W : World} (h : EnvD w W k i o) : W.cell? ⟨w.heap.size, 0, none⟩ = some (.int .i64 k) ∧ W.cell? ⟨w.heap.size, 1, none⟩ = some (.int .i64 i) ∧ W.cell? ⟨w.heap.size, 2, none⟩ = some (.int .i64 o) :=
  ⟨Go.Joins.cell_of_block h.v 0, Go.Joins.cell_of_block h.v 1, Go.Joins.cell_of_block h.v 2⟩
theorem EnvD.rr {W : World} (h : EnvD w W k i o) : W.cell? ⟨w.heap.size + 1, 0, none⟩ = some (.int .i64 0) ∧ W.cell? ⟨w.heap.size + 1, 1, none⟩ = some (.int .i64 0) ∧ W.cell? ⟨w.heap.size + 1, 2, none⟩ = some (.int .i64 0) ∧
    W.frozen? ⟨w.heap.size + 1, 0, none⟩ = false ∧ W.frozen? ⟨w.heap.size + 1, 1, none⟩ = false ∧ W.frozen? ⟨w.heap.size + 1, 2, none⟩ = false :=
  ⟨Go.Joins.cell_of_block h.r 0, Go.Joins.cell_of_block h.r 1, Go.Joins.cell_of_block h.r 2, Go.Joins.unfrozen_of_block h.r 0, Go.Joins.unfrozen_of_block h.r 1, Go.Joins.unfrozen_of_block h.r 2⟩
theorem EnvD.stored {W : World} (h : EnvD w W k i o) (a b c : Value) : Below w.heap.size w (((W.setCell ⟨w.heap.size + 1, 0, none⟩ a).setCell ⟨w.heap.size + 1, 1, none⟩ b).setCell ⟨w.heap.size + 1, 2, none⟩ c) :=
  ((h.below.setCell (Nat.le_succ _) _).setCell (Nat.le_succ _) _).setCell (Nat.le_succ _) _
end
/-- what Add answers: the error; where the pointer then is -/
def addE (st : St) (k i o n : Int) : Int :=
  if fixedB k = true ∧ n = 0 then 0 else if reachE st k i o 0 ≠ 0 then reachE st k i o 0 else
    if n < -o ∨ ((st.bl[(i - 1).toNat]?.map fun b => (b.bs.length : Int)).getD 0) - o < n then 141 else 0
def addR (st : St) (k i o n : Int) : Value := if addE st k i o n = 0 then .tuple #[vT k i (o + n), .int .i64 0] else .tuple #[vT 0 0 0, .int .i64 (addE st k i o n)]
def FixD (w : World) (k i o : Int) (f : Bool) : Prop := ∀ W, EnvD w W k i o → Calls Tryd.prog 69 #[.agg #[.int .i64 k, .int .i64 i, .int .i64 o]] W fun e w' => e = .returned (.bool f) ∧ EnvD w w' k i o
def ReachD (w : World) (g : Nat) (k i o E : Int) (p y m : Nat) : Prop := ∀ W, EnvD w W k i o → Calls Tryd.prog 59 #[.pointer (some ⟨g, 0, none⟩), .agg #[.int .i64 k, .int .i64 i, .int .i64 o], .int .i64 0] W fun e w' => (∃ S, e = .returned (.tuple #[.pointer (some ⟨p, 0, none⟩), S, .int .i64 0])) ∧ EnvD w w' k i o ∧ w'.cell? ⟨p, 2, none⟩ = some (.slice (some ⟨y, 0, none⟩) m m)
def ReachD' (w : World) (g : Nat) (k i o E : Int) : Prop := ∀ W, EnvD w W k i o → Calls Tryd.prog 59 #[.pointer (some ⟨g, 0, none⟩), .agg #[.int .i64 k, .int .i64 i, .int .i64 o], .int .i64 0] W fun e w' => (∃ P S, e = .returned (.tuple #[P, S, .int .i64 E])) ∧ EnvD w w' k i o
section
variable {w : World} {g p y m : Nat} {k i o n E : Int} {f : Bool}
theorem envD_vf {W : World} (h : EnvD w W k i o) : W.frozen? ⟨w.heap.size, 2, none⟩ = false := Go.Joins.unfrozen_of_block h.v 2
set_option maxRecDepth 20000 in
set_option maxHeartbeats 800000 in
theorem add_fixed (HF : Hid (FixD w k i o true)) : Calls Tryd.prog 28 #[.pointer (some ⟨g, 0, none⟩), .agg #[.int .i64 k, .int .i64 i, .int .i64 o], .int .i64 0] w fun e w' => e = .returned (.tuple #[.agg #[.int .i64 k, .int .i64 i, .int .i64 o], .int .i64 0]) ∧ Below w.heap.size w w' := by
  go_enter Tryd.func28, Tryd.ntmps28
  go_wp2_with (go_at_call 69; refine (HF.out _ (EnvD.new w k i o)).mono ?_; rintro e w1 ⟨rfl, h1⟩; obtain ⟨c0, c1, c2⟩ := h1.vv; obtain ⟨r0, r1, r2, f0, f1, f2⟩ := h1.rr; have H1 := Lib.hid h1; clear h1)
  try simp only [Exit.inBlock, Exit.then]
  refine bodyPost_ret (v := .tuple #[.agg #[.int .i64 k, .int .i64 i, .int .i64 o], .int .i64 0]) (by rw [results_cell_tmp rfl]; go_simp) rfl ?_
  exact ⟨rfl, H1.out.stored _ _ _⟩
set_option maxRecDepth 20000 in
set_option maxHeartbeats 800000 in
theorem add_err (HF : Hid (FixD w k i o f)) (hn : f = true → n ≠ 0) (HR : Hid (ReachD' w g k i o E)) (hE : (E != 0) = true) : Calls Tryd.prog 28 #[.pointer (some ⟨g, 0, none⟩), .agg #[.int .i64 k, .int .i64 i, .int .i64 o], .int .i64 n] w fun e w' => e = .returned (.tuple #[.agg #[.int .i64 0, .int .i64 0, .int .i64 0], .int .i64 E]) ∧ Below w.heap.size w w' := by
  cases f
  · clear hn
    go_enter Tryd.func28, Tryd.ntmps28
    go_wp2_with (first
      | (go_at_call 69; refine (HF.out _ (EnvD.new w k i o)).mono ?_; rintro e w1 ⟨rfl, h1⟩; obtain ⟨c0, c1, c2⟩ := h1.vv; have H1 := Lib.hid h1; clear h1)
      | (go_at_call 59; refine (HR.out _ H1.out).mono ?_; rintro e w2 ⟨⟨P2, S2, rfl⟩, h2⟩; obtain ⟨r0, r1, r2, f0, f1, f2⟩ := h2.rr; have H2 := Lib.hid h2; clear h2))
    try simp only [Exit.inBlock, Exit.then]
    refine bodyPost_ret (v := .tuple #[.agg #[.int .i64 0, .int .i64 0, .int .i64 0], .int .i64 E]) (by rw [results_cell_tmp rfl]; go_simp) rfl ?_
    exact ⟨rfl, H2.out.stored _ _ _⟩
  · have hn' : (n == 0) = false := by rw [beq_eq_false_iff_ne]; exact hn rfl
    clear hn
    go_enter Tryd.func28, Tryd.ntmps28
    go_wp2_with (first
      | (go_at_call 69; refine (HF.out _ (EnvD.new w k i o)).mono ?_; rintro e w1 ⟨rfl, h1⟩; obtain ⟨c0, c1, c2⟩ := h1.vv; have H1 := Lib.hid h1; clear h1)
      | (go_at_call 59; refine (HR.out _ H1.out).mono ?_; rintro e w2 ⟨⟨P2, S2, rfl⟩, h2⟩; obtain ⟨r0, r1, r2, f0, f1, f2⟩ := h2.rr; have H2 := Lib.hid h2; clear h2))
    try simp only [Exit.inBlock, Exit.then]
    refine bodyPost_ret (v := .tuple #[.agg #[.int .i64 0, .int .i64 0, .int .i64 0], .int .i64 E]) (by rw [results_cell_tmp rfl]; go_simp) rfl ?_
    exact ⟨rfl, H2.out.stored _ _ _⟩
set_option maxRecDepth 20000 in
set_option maxHeartbeats 800000 in
theorem add_low (HF : Hid (FixD w k i o false)) (HR : Hid (ReachD w g k i o E p y m)) (ho : 0 ≤ o ∧ o ≤ 131072) (hlo : n < -o) : Calls Tryd.prog 28 #[.pointer (some ⟨g, 0, none⟩), .agg #[.int .i64 k, .int .i64 i, .int .i64 o], .int .i64 n] w fun e w' => e = .returned (.tuple #[.agg #[.int .i64 0, .int .i64 0, .int .i64 0], .int .i64 141]) ∧ Below w.heap.size w w' := by
  have hwn : IntKind.i64.wrap (-o) = -o := wrapIn (by omega) (by omega)
  have d1 : decide (n < -o) = true := decide_eq_true hlo
  go_enter Tryd.func28, Tryd.ntmps28
  go_wp2_with (first
    | (go_at_call 69; refine (HF.out _ (EnvD.new w k i o)).mono ?_; rintro e w1 ⟨rfl, h1⟩; obtain ⟨c0, c1, c2⟩ := h1.vv; have H1 := Lib.hid h1; clear h1)
    | (go_at_call 59; refine (HR.out _ H1.out).mono ?_; rintro e w2 ⟨⟨S2, rfl⟩, h2, q2⟩; obtain ⟨v0, v1, v2⟩ := h2.vv; obtain ⟨r0, r1, r2, f0, f1, f2⟩ := h2.rr; have H2 := Lib.hid h2; clear h2))
  go_quiet (fail)
  go_wp2_with fail
  try simp only [Exit.inBlock, Exit.then]
  refine bodyPost_ret (v := .tuple #[.agg #[.int .i64 0, .int .i64 0, .int .i64 0], .int .i64 141]) (by rw [results_cell_tmp rfl]; go_simp) rfl ?_
  exact ⟨rfl, (H2.out.after (belowN (Below.refl _ _) nq)).stored _ _ _⟩
set_option maxRecDepth 20000 in
set_option maxHeartbeats 800000 in
theorem add_high (HF : Hid (FixD w k i o false)) (HR : Hid (ReachD w g k i o E p y m)) (ho : 0 ≤ o ∧ o ≤ m) (hm : m ≤ 131072) (hlo : -o ≤ n) (hhi : (m : Int) - o < n) : Calls Tryd.prog 28 #[.pointer (some ⟨g, 0, none⟩), .agg #[.int .i64 k, .int .i64 i, .int .i64 o], .int .i64 n] w fun e w' => e = .returned (.tuple #[.agg #[.int .i64 0, .int .i64 0, .int .i64 0], .int .i64 141]) ∧ Below w.heap.size w w' := by
  have hwn : IntKind.i64.wrap (-o) = -o := wrapIn (by omega) (by omega)
  have hwr : IntKind.i64.wrap ((m : Int) - o) = (m : Int) - o := wrapIn (by omega) (by omega)
  have d1 : decide (n < -o) = false := decide_eq_false (by omega)
  have d2 : decide ((m : Int) - o < n) = true := decide_eq_true hhi
  go_enter Tryd.func28, Tryd.ntmps28
  go_wp2_with (first
    | (go_at_call 69; refine (HF.out _ (EnvD.new w k i o)).mono ?_; rintro e w1 ⟨rfl, h1⟩; obtain ⟨c0, c1, c2⟩ := h1.vv; have H1 := Lib.hid h1; clear h1)
    | (go_at_call 59; refine (HR.out _ H1.out).mono ?_; rintro e w2 ⟨⟨S2, rfl⟩, h2, q2⟩; obtain ⟨v0, v1, v2⟩ := h2.vv; have g2 := envD_vf h2; obtain ⟨r0, r1, r2, f0, f1, f2⟩ := h2.rr; have H2 := Lib.hid h2; clear h2))
  go_quiet (fail)
  go_wp2_with fail
  try simp only [Exit.inBlock, Exit.then]
  refine bodyPost_ret (v := .tuple #[.agg #[.int .i64 0, .int .i64 0, .int .i64 0], .int .i64 141]) (by rw [results_cell_tmp rfl]; go_simp) rfl ?_
  exact ⟨rfl, (H2.out.after (belowN (Below.refl _ _) nq)).stored _ _ _⟩
set_option maxRecDepth 20000 in
set_option maxHeartbeats 800000 in
theorem add_ok (HF : Hid (FixD w k i o false)) (HR : Hid (ReachD w g k i o E p y m)) (ho : 0 ≤ o ∧ o ≤ m) (hm : m ≤ 131072) (hlo : -o ≤ n) (hhi : n ≤ (m : Int) - o) : Calls Tryd.prog 28 #[.pointer (some ⟨g, 0, none⟩), .agg #[.int .i64 k, .int .i64 i, .int .i64 o], .int .i64 n] w fun e w' => e = .returned (.tuple #[.agg #[.int .i64 k, .int .i64 i, .int .i64 (o + n)], .int .i64 0]) ∧ Below w.heap.size w w' := by
  have hwn : IntKind.i64.wrap (-o) = -o := wrapIn (by omega) (by omega)
  have hwr : IntKind.i64.wrap ((m : Int) - o) = (m : Int) - o := wrapIn (by omega) (by omega)
  have hws : wrap64 (o + n) = o + n := IntWalk.wrap64_in _ (by omega)
  have d1 : decide (n < -o) = false := decide_eq_false (by omega)
  have d2 : decide ((m : Int) - o < n) = false := decide_eq_false (by omega)
  go_enter Tryd.func28, Tryd.ntmps28
  go_wp2_with (first
    | (go_at_call 69; refine (HF.out _ (EnvD.new w k i o)).mono ?_; rintro e w1 ⟨rfl, h1⟩; obtain ⟨c0, c1, c2⟩ := h1.vv; have H1 := Lib.hid h1; clear h1)
    | (go_at_call 59; refine (HR.out _ H1.out).mono ?_; rintro e w2 ⟨⟨S2, rfl⟩, h2, q2⟩; obtain ⟨v0, v1, v2⟩ := h2.vv; have g2 := envD_vf h2; obtain ⟨r0, r1, r2, f0, f1, f2⟩ := h2.rr; have H2 := Lib.hid h2; clear h2))
  go_quiet (fail)
  go_wp2_with fail
  try simp only [Exit.inBlock, Exit.then]
  refine bodyPost_ret (v := .tuple #[.agg #[.int .i64 k, .int .i64 i, .int .i64 (o + n)], .int .i64 0]) (by rw [results_cell_tmp rfl]; go_simp) rfl ?_
  exact ⟨rfl, (((((H2.out.after (belowN (Below.refl _ _) nq)).below.setCell (Nat.le_refl _) _).setCell (Nat.le_succ _) _).setCell (Nat.le_succ _) _).setCell (Nat.le_succ _) _)⟩
end
section
variable {w : World} {B g N : Nat} {st : St} {L : Lay}
theorem add_any (h : Sto w B g N st L) (k i o n : Int) (i0 : -9223372036854775808 ≤ i) (i1 : i ≤ 9223372036854775807) (n0 : -9223372036854775808 ≤ n) (n1 : n ≤ 9223372036854775807) :
    Calls Tryd.prog 28 #[.pointer (some ⟨g, 0, none⟩), vT k i o, .int .i64 n] w fun e w' => e = .returned (addR st k i o n) ∧ Below w.heap.size w w' := by
  have HF : Hid (FixD w k i o (fixedB k)) := Lib.hid (fun W hW => (fixed_any k i o W).mono fun e w' ⟨x, y⟩ => ⟨x, hW.after y⟩)
  unfold vT addR
  by_cases hf : fixedB k = true ∧ n = 0
  · obtain ⟨hf1, rfl⟩ := hf
    have h0 : addE st k i o 0 = 0 := by unfold addE; rw [if_pos ⟨hf1, rfl⟩]
    rw [if_pos h0, Int.add_zero]
    rw [hf1] at HF
    exact add_fixed HF
  · by_cases hE : reachE st k i o 0 = 0
    · obtain ⟨rfl, hi0, hi1, ho, b, hb, hd, hlen, _⟩ := reach_zero hE
      have HF2 : Hid (FixD w 2 i o false) := HF
      have hm := (h.body _ b hb).2.2.2.2
      have hA : addE st 2 i o n = if n < -o ∨ (b.bs.length : Int) - o < n then 141 else 0 := by
        unfold addE
        rw [if_neg hf, if_neg (fun h => h hE), hb]
        rfl
      have HR : Hid (ReachD w g 2 i o 0 (L.pb (i - 1).toNat) (L.py (i - 1).toNat) b.bs.length) := Lib.hid (fun W hW => by
        have := reach_any (h.below hW.below) 2 i o 0 i0 i1 (Int.le_refl _)
        unfold reachR at this
        rw [if_pos hE] at this
        exact this.mono fun e w' ⟨x, y⟩ => ⟨⟨_, x⟩, hW.after y, Go.Joins.cell_of_block (((h.below hW.below).below y).body _ b hb).2.2.1 2⟩)
      by_cases h1 : n < -o
      · have hA2 : addE st 2 i o n = 141 := by rw [hA, if_pos (Or.inl h1)]
        rw [hA2, if_neg (by decide)]
        exact add_low HF2 HR (by omega) h1
      · by_cases h2 : (b.bs.length : Int) - o < n
        · have hA2 : addE st 2 i o n = 141 := by rw [hA, if_pos (Or.inr h2)]
          rw [hA2, if_neg (by decide)]
          exact add_high HF2 HR (by omega) hm (by omega) h2
        · have hA2 : addE st 2 i o n = 0 := by rw [hA, if_neg (by omega)]
          rw [hA2, if_pos rfl]
          exact add_ok HF2 HR (by omega) hm (by omega) (by omega)
    · have hA : addE st k i o n = reachE st k i o 0 := by unfold addE; rw [if_neg hf, if_pos hE]
      rw [hA, if_neg hE]
      have HR : Hid (ReachD' w g k i o (reachE st k i o 0)) := Lib.hid (fun W hW => by
        obtain ⟨P, S, hfm⟩ := reachR_form st L k i o 0
        have := reach_any (h.below hW.below) k i o 0 i0 i1 (Int.le_refl _)
        rw [hfm] at this
        exact this.mono fun e w' ⟨x, y⟩ => ⟨⟨P, S, x⟩, hW.after y⟩)
      exact add_err HF (fun hf1 hn => hf ⟨hf1, hn⟩) HR (by simpa using hE)
end
end Go.Proofs.YtejhphnlickjlaaDoor.bl
