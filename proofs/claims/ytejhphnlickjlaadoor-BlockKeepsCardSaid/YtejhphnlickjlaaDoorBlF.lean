/-
  Contracts of package block: Below, Apart. Condition: a store stands in memory.
-/
import Derived.Test.YtejhphnlickjlaaDoorBlB
set_option linter.unusedVariables false
set_option linter.unusedSimpArgs false
namespace Go.Proofs.YtejhphnlickjlaaDoor.bl
open Go.RowKit
open M ty
set_option linter.unusedVariables false
section
variable {w : World} {B g N : Nat} {st : St} {L : Lay}
theorem reach_any (h : Sto w B g N st L) (k i o n : Int) (i0 : -9223372036854775808 ≤ i) (i1 : i ≤ 9223372036854775807) (n0 : 0 ≤ n) :
    Calls Tryd.prog 59 #[.pointer (some ⟨g, 0, none⟩), vT k i o, .int .i64 n] w fun e w' => e = .returned (reachR st L k i o n) ∧ Below w.heap.size w w' := by
  unfold vT
  by_cases hk : k = 2
  · subst hk
    have HS := h.alloc (.cells #[.int .i64 2, .int .i64 i, .int .i64 o] 24)
    have HO : Hid (OfIs (box w 2 i o) g i (ofP st L i)) := Lib.hid (of_any HS i i0 i1)
    by_cases hi : 1 ≤ i ∧ i ≤ st.bl.length
    · obtain ⟨j, rfl⟩ : ∃ j : Nat, i = (j : Int) + 1 := ⟨(i - 1).toNat, by omega⟩
      have hj : j < st.bl.length := by omega
      have e1 : ((j : Int) + 1 - 1).toNat = j := by omega
      have hb : st.bl[j]? = some st.bl[j] := List.getElem?_eq_getElem hj
      obtain ⟨b1, b2, b3, b4, b5⟩ := HS.body j _ hb
      have hof : ofP st L ((j : Int) + 1) = .pointer (some ⟨L.pb j, 0, none⟩) := by unfold ofP; rw [if_pos hi, e1]
      rw [hof] at HO
      have HA : AliveIs (box w 2 ((j : Int) + 1) o) (L.pb j) (!st.bl[j].dead) := alive_any (L.pb j) st.bl[j] (L.py j) _ b3
      have c2 : (box w 2 ((j : Int) + 1) o).cell? ⟨L.pb j, 2, none⟩ = some (.slice (some ⟨L.py j, 0, none⟩) st.bl[j].bs.length st.bl[j].bs.length) := Go.Joins.cell_of_block b3 2
      by_cases ho : o < 0
      · rw [reachR_no (show reachE st 2 ((j : Int) + 1) o n = 141 by unfold reachE; rw [if_pos (.inr (.inr ho))]) (by decide)]
        exact reach_neg _ o n ho HO
      · have hE : reachE st 2 ((j : Int) + 1) o n = if st.bl[j].dead = true then 140 else if (st.bl[j].bs.length : Int) < o ∨ (st.bl[j].bs.length : Int) - o < n then 141 else 0 := by
          unfold reachE
          rw [if_neg (by omega), e1, hb]
        by_cases hd : st.bl[j].dead = true
        · rw [reachR_no (E := 140) (by rw [hE, if_pos hd]) (by decide)]
          rw [hd] at HA
          exact reach_dead _ o n ho HO (Lib.hid HA)
        · rw [if_neg hd] at hE
          rw [show st.bl[j].dead = false from by simpa using hd] at HA
          by_cases hlo : (st.bl[j].bs.length : Int) < o
          · rw [reachR_no (E := 141) (by rw [hE, if_pos (.inl hlo)]) (by decide)]
            exact reach_past _ o n ho hlo HO (Lib.hid HA) c2
          · by_cases hln : (st.bl[j].bs.length : Int) - o < n
            · rw [reachR_no (E := 141) (by rw [hE, if_pos (.inr hln)]) (by decide)]
              exact reach_long _ o n ho hlo hln b5 HO (Lib.hid HA) c2
            · have h0 : reachE st 2 ((j : Int) + 1) o n = 0 := by rw [hE, if_neg (by omega)]
              have hR : reachR st L 2 ((j : Int) + 1) o n = .tuple #[.pointer (some ⟨L.pb j, 0, none⟩), sliceAt (L.py j) st.bl[j].bs.length o n, .int .i64 0] := by
                unfold reachR
                rw [if_pos h0, e1, hb]
                rfl
              rw [hR]
              exact reach_ok _ o n (by omega) n0 (by omega) (by omega) b5 HO (Lib.hid HA) c2
    · have hof : ofP st L i = .pointer none := by unfold ofP; rw [if_neg hi]
      rw [hof] at HO
      rw [reachR_no (show reachE st 2 i o n = 141 by unfold reachE; rw [if_pos (.inr (.inl hi))]) (by decide)]
      exact reach_nil _ o n HO
  · rw [reachR_no (show reachE st k i o n = 141 by unfold reachE; rw [if_pos (.inl hk)]) (by decide)]
    exact reach_kind k i o n (by simpa using hk)
/-- does block b live? -/
def livesB (st : St) (b : Int) : Bool := decide (1 ≤ b ∧ b ≤ st.bl.length) && ((st.bl[(b - 1).toNat]?.map fun x => !x.dead).getD false)
theorem lives_any (h : Sto w B g N st L) (b : Int) (i0 : -9223372036854775808 ≤ b) (i1 : b ≤ 9223372036854775807) :
    Calls Tryd.prog 27 #[.pointer (some ⟨g, 0, none⟩), .int .i64 b] w fun e w' => e = .returned (.bool (livesB st b)) ∧ w' = w := by
  have HO : Hid (OfIs w g b (ofP st L b)) := Lib.hid (of_any h b i0 i1)
  by_cases hi : 1 ≤ b ∧ b ≤ st.bl.length
  · obtain ⟨j, rfl⟩ : ∃ j : Nat, b = (j : Int) + 1 := ⟨(b - 1).toNat, by omega⟩
    have hj : j < st.bl.length := by omega
    have e1 : ((j : Int) + 1 - 1).toNat = j := by omega
    have hb : st.bl[j]? = some st.bl[j] := List.getElem?_eq_getElem hj
    obtain ⟨b1, b2, b3, b4, b5⟩ := h.body j _ hb
    have hof : ofP st L ((j : Int) + 1) = .pointer (some ⟨L.pb j, 0, none⟩) := by unfold ofP; rw [if_pos hi, e1]
    rw [hof] at HO
    have HA : Hid (AliveIs w (L.pb j) (!st.bl[j].dead)) := Lib.hid (alive_any (L.pb j) st.bl[j] (L.py j) _ b3)
    rw [show livesB st ((j : Int) + 1) = !st.bl[j].dead from by unfold livesB; rw [decide_eq_true hi, e1, hb]; simp]
    clear hof hb b1 b2 b3 b4 b5 h hi e1
    generalize (!st.bl[j].dead) = d at *
    generalize L.pb j = p at *
    go_enter Tryd.func27, Tryd.ntmps27
    go_wp2_with (first | (go_at_call 67; refine HO.out.mono ?_; rintro e w1 ⟨rfl, rfl⟩) | (go_at_call 68; refine HA.out.mono ?_; rintro e w1 ⟨rfl, rfl⟩))
    go_ret
    exact ⟨rfl, rfl⟩
  · have hof : ofP st L b = .pointer none := by unfold ofP; rw [if_neg hi]
    rw [hof] at HO
    rw [show livesB st b = false from by unfold livesB; rw [decide_eq_false hi]; rfl]
    clear hof h hi
    go_enter Tryd.func27, Tryd.ntmps27
    go_wp2_with (first | (go_at_call 67; refine HO.out.mono ?_; rintro e w1 ⟨rfl, rfl⟩))
    go_ret
    exact ⟨rfl, rfl⟩
end
end Go.Proofs.YtejhphnlickjlaaDoor.bl
namespace Go.Proofs.YtejhphnlickjlaaDoor.bl
open Go.RowKit
open M ty
set_option linter.unusedVariables false
theorem reachR_form (st : St) (L : Lay) (k i o n : Int) : ∃ P S, reachR st L k i o n = .tuple #[P, S, .int .i64 (reachE st k i o n)] := by
  unfold reachR
  split
  · rename_i h
    rw [h]
    exact ⟨_, _, rfl⟩
  · exact ⟨_, _, rfl⟩
/-- two values' variables -/
structure EnvQ (w W : World) (a b c a2 b2 c2 : Int) : Prop where
  below : Below w.heap.size w W
  p : W.heap[w.heap.size]? = some (.cells #[.int .i64 a, .int .i64 b, .int .i64 c] 24 (0, 0))
  q : W.heap[w.heap.size + 1]? = some (.cells #[.int .i64 a2, .int .i64 b2, .int .i64 c2] 24 (0, 0))
section
variable {w : World} {a b c a2 b2 c2 : Int}
theorem EnvQ.after {W W' : World} (h : EnvQ w W a b c a2 b2 c2) (hb : Below W.heap.size W W') : EnvQ w W' a b c a2 b2 c2 :=
  ⟨h.below.trans (hb.mono h.below.size), (hb.block _ (Array.getElem?_eq_some_iff.1 h.p).1).trans h.p, (hb.block _ (Array.getElem?_eq_some_iff.1 h.q).1).trans h.q⟩
theorem EnvQ.alloc {W : World} (h : EnvQ w W a b c a2 b2 c2) (o : Obj) : EnvQ w (W.alloc o) a b c a2 b2 c2 := h.after ((Below.refl _ _).alloc (Nat.le_refl _) _)
theorem EnvQ.new (w : World) (a b c a2 b2 c2 : Int) : EnvQ w ((w.alloc (.cells #[.int .i64 a, .int .i64 b, .int .i64 c] 24)).alloc (.cells #[.int .i64 a2, .int .i64 b2, .int .i64 c2] 24)) a b c a2 b2 c2 := by
  have e1 := heap_alloc_new w (.cells #[.int .i64 a, .int .i64 b, .int .i64 c] 24)
  generalize hW1 : w.alloc (.cells #[.int .i64 a, .int .i64 b, .int .i64 c] 24) = W1 at *
  have s1 : W1.heap.size = w.heap.size + 1 := by rw [← hW1]; simp
  have b1 : Below w.heap.size w W1 := by rw [← hW1]; exact (Below.refl _ _).alloc (Nat.le_refl _) _
  have e2 := heap_alloc_new W1 (.cells #[.int .i64 a2, .int .i64 b2, .int .i64 c2] 24)
  have b2 : Below W1.heap.size W1 (W1.alloc (.cells #[.int .i64 a2, .int .i64 b2, .int .i64 c2] 24)) := (Below.refl _ _).alloc (Nat.le_refl _) _
  rw [s1] at e2; rw [s1] at b2
  exact ⟨b1.trans (b2.mono (by omega)), by rw [b2.block _ (by omega)]; exact e1, e2⟩
theorem EnvQ.cells {W : World} (h : EnvQ w W a b c a2 b2 c2) : W.cell? ⟨w.heap.size, 0, none⟩ = some (.int .i64 a) ∧ W.cell? ⟨w.heap.size, 1, none⟩ = some (.int .i64 b) ∧ W.cell? ⟨w.heap.size, 2, none⟩ = some (.int .i64 c) ∧
    W.cell? ⟨w.heap.size + 1, 0, none⟩ = some (.int .i64 a2) ∧ W.cell? ⟨w.heap.size + 1, 1, none⟩ = some (.int .i64 b2) ∧ W.cell? ⟨w.heap.size + 1, 2, none⟩ = some (.int .i64 c2) :=
  ⟨Go.Joins.cell_of_block h.p 0, Go.Joins.cell_of_block h.p 1, Go.Joins.cell_of_block h.p 2, Go.Joins.cell_of_block h.q 0, Go.Joins.cell_of_block h.q 1, Go.Joins.cell_of_block h.q 2⟩
end
theorem idx0 (a b c a2 b2 c2 : Int) (W : World) : (Instr.index 113 (.agg #[.int .i64 a, .int .i64 b, .int .i64 c, .int .i64 a2, .int .i64 b2, .int .i64 c2]) (.int .i64 0)).run Tryd.prog W = .ok (.agg #[.int .i64 a, .int .i64 b, .int .i64 c]) W := by kernel_rfl
theorem idx1 (a b c a2 b2 c2 : Int) (W : World) : (Instr.index 113 (.agg #[.int .i64 a, .int .i64 b, .int .i64 c, .int .i64 a2, .int .i64 b2, .int .i64 c2]) (.int .i64 1)).run Tryd.prog W = .ok (.agg #[.int .i64 a2, .int .i64 b2, .int .i64 c2]) W := by kernel_rfl
/-- the error of both -/
def bothE (st : St) (k i o k2 i2 o2 : Int) : Int :=
  if k ≠ 2 ∨ k2 ≠ 2 then 141 else if reachE st k i o 0 ≠ 0 then reachE st k i o 0 else if reachE st k2 i2 o2 0 ≠ 0 then reachE st k2 i2 o2 0 else if i ≠ i2 then 146 else 0
def ReachQ (w : World) (g : Nat) (a b c a2 b2 c2 k i o E : Int) : Prop := ∀ W, EnvQ w W a b c a2 b2 c2 → Calls Tryd.prog 59 #[.pointer (some ⟨g, 0, none⟩), .agg #[.int .i64 k, .int .i64 i, .int .i64 o], .int .i64 0] W fun e w' => (∃ P S, e = .returned (.tuple #[P, S, .int .i64 E])) ∧ EnvQ w w' a b c a2 b2 c2
section
variable {w : World} {g : Nat} {k i o k2 i2 o2 E1 E2 : Int}
set_option maxRecDepth 20000 in
theorem both_kind (hk : (k != 2) = true ∨ k = 2 ∧ (k2 != 2) = true) : Calls Tryd.prog 70 #[.pointer (some ⟨g, 0, none⟩), .agg #[.int .i64 k, .int .i64 i, .int .i64 o], .agg #[.int .i64 k2, .int .i64 i2, .int .i64 o2]] w fun e w' => e = .returned (.int .i64 141) ∧ Below w.heap.size w w' := by
  rcases hk with hk | ⟨rfl, hk⟩
  all_goals
    go_enter Tryd.func70, Tryd.ntmps70
    go_wp2_with fail
    all_goals go_ret
    all_goals exact ⟨rfl, ((Below.refl _ _).alloc (Nat.le_refl _) _).alloc (by simp) _⟩
set_option maxRecDepth 20000 in
set_option maxHeartbeats 1600000 in
theorem both_1 (HP : Hid (ReachQ w g 2 i o 2 i2 o2 2 i o E1)) (h1 : (E1 != 0) = true) : Calls Tryd.prog 70 #[.pointer (some ⟨g, 0, none⟩), .agg #[.int .i64 2, .int .i64 i, .int .i64 o], .agg #[.int .i64 2, .int .i64 i2, .int .i64 o2]] w fun e w' => e = .returned (.int .i64 E1) ∧ Below w.heap.size w w' := by
  have x0 := idx0 2 i o 2 i2 o2
  have x1 := idx1 2 i o 2 i2 o2
  go_enter Tryd.func70, Tryd.ntmps70
  go_wp2_with fail
  refine wp_loop_rounds 3 ?_
  rw [rounds_succ]
  go_wp2_with (go_at_call 59; refine (HP.out _ ((EnvQ.new w 2 i o 2 i2 o2).alloc _)).mono ?_; rintro e w1 ⟨⟨P1, S1, rfl⟩, h1⟩; obtain ⟨c0, c1, c2, c3, c4, c5⟩ := h1.cells; have H1 := Lib.hid h1; clear h1)
  go_ret
  exact ⟨rfl, H1.out.below⟩
set_option maxRecDepth 20000 in
set_option maxHeartbeats 1600000 in
theorem both_2 (HP : Hid (ReachQ w g 2 i o 2 i2 o2 2 i o 0)) (HQ : Hid (ReachQ w g 2 i o 2 i2 o2 2 i2 o2 E2)) (h2 : (E2 != 0) = true) : Calls Tryd.prog 70 #[.pointer (some ⟨g, 0, none⟩), .agg #[.int .i64 2, .int .i64 i, .int .i64 o], .agg #[.int .i64 2, .int .i64 i2, .int .i64 o2]] w fun e w' => e = .returned (.int .i64 E2) ∧ Below w.heap.size w w' := by
  have x0 := idx0 2 i o 2 i2 o2
  have x1 := idx1 2 i o 2 i2 o2
  go_enter Tryd.func70, Tryd.ntmps70
  go_wp2_with fail
  refine wp_loop_rounds 3 ?_
  rw [rounds_succ]
  go_wp2_with (go_at_call 59; refine (HP.out _ ((EnvQ.new w 2 i o 2 i2 o2).alloc _)).mono ?_; rintro e w1 ⟨⟨P1, S1, rfl⟩, h1⟩; obtain ⟨c0, c1, c2, c3, c4, c5⟩ := h1.cells; have H1 := Lib.hid h1; clear h1)
  rw [rounds_succ]
  go_wp2_with (go_at_call 59; refine (HQ.out _ (H1.out.alloc _)).mono ?_; rintro e w2 ⟨⟨P2, S2, rfl⟩, h2⟩; obtain ⟨d0, d1, d2, d3, d4, d5⟩ := h2.cells; have H2 := Lib.hid h2; clear h2)
  go_ret
  exact ⟨rfl, H2.out.below⟩
set_option maxRecDepth 20000 in
set_option maxHeartbeats 1600000 in
theorem both_3 (HP : Hid (ReachQ w g 2 i o 2 i2 o2 2 i o 0)) (HQ : Hid (ReachQ w g 2 i o 2 i2 o2 2 i2 o2 0)) (h3 : (i != i2) = true) : Calls Tryd.prog 70 #[.pointer (some ⟨g, 0, none⟩), .agg #[.int .i64 2, .int .i64 i, .int .i64 o], .agg #[.int .i64 2, .int .i64 i2, .int .i64 o2]] w fun e w' => e = .returned (.int .i64 146) ∧ Below w.heap.size w w' := by
  have x0 := idx0 2 i o 2 i2 o2
  have x1 := idx1 2 i o 2 i2 o2
  go_enter Tryd.func70, Tryd.ntmps70
  go_wp2_with fail
  refine wp_loop_rounds 3 ?_
  rw [rounds_succ]
  go_wp2_with (go_at_call 59; refine (HP.out _ ((EnvQ.new w 2 i o 2 i2 o2).alloc _)).mono ?_; rintro e w1 ⟨⟨P1, S1, rfl⟩, h1⟩; obtain ⟨c0, c1, c2, c3, c4, c5⟩ := h1.cells; have H1 := Lib.hid h1; clear h1)
  rw [rounds_succ]
  go_wp2_with (go_at_call 59; refine (HQ.out _ (H1.out.alloc _)).mono ?_; rintro e w2 ⟨⟨P2, S2, rfl⟩, h2⟩; obtain ⟨d0, d1, d2, d3, d4, d5⟩ := h2.cells; have H2 := Lib.hid h2; clear h2)
  rw [rounds_succ]
  go_wp2_with fail
  go_ret
  exact ⟨rfl, H2.out.below⟩
set_option maxRecDepth 20000 in
set_option maxHeartbeats 1600000 in
theorem both_4 (HP : Hid (ReachQ w g 2 i o 2 i2 o2 2 i o 0)) (HQ : Hid (ReachQ w g 2 i o 2 i2 o2 2 i2 o2 0)) (h3 : (i != i2) = false) : Calls Tryd.prog 70 #[.pointer (some ⟨g, 0, none⟩), .agg #[.int .i64 2, .int .i64 i, .int .i64 o], .agg #[.int .i64 2, .int .i64 i2, .int .i64 o2]] w fun e w' => e = .returned (.int .i64 0) ∧ Below w.heap.size w w' := by
  have x0 := idx0 2 i o 2 i2 o2
  have x1 := idx1 2 i o 2 i2 o2
  go_enter Tryd.func70, Tryd.ntmps70
  go_wp2_with fail
  refine wp_loop_rounds 3 ?_
  rw [rounds_succ]
  go_wp2_with (go_at_call 59; refine (HP.out _ ((EnvQ.new w 2 i o 2 i2 o2).alloc _)).mono ?_; rintro e w1 ⟨⟨P1, S1, rfl⟩, h1⟩; obtain ⟨c0, c1, c2, c3, c4, c5⟩ := h1.cells; have H1 := Lib.hid h1; clear h1)
  rw [rounds_succ]
  go_wp2_with (go_at_call 59; refine (HQ.out _ (H1.out.alloc _)).mono ?_; rintro e w2 ⟨⟨P2, S2, rfl⟩, h2⟩; obtain ⟨d0, d1, d2, d3, d4, d5⟩ := h2.cells; have H2 := Lib.hid h2; clear h2)
  rw [rounds_succ]
  go_wp2_with fail
  go_ret
  exact ⟨rfl, H2.out.below⟩
end
section
variable {w : World} {B g N : Nat} {st : St} {L : Lay}
theorem both_any (h : Sto w B g N st L) (k i o k2 i2 o2 : Int) (i0 : -9223372036854775808 ≤ i) (i1 : i ≤ 9223372036854775807) (j0 : -9223372036854775808 ≤ i2) (j1 : i2 ≤ 9223372036854775807) :
    Calls Tryd.prog 70 #[.pointer (some ⟨g, 0, none⟩), vT k i o, vT k2 i2 o2] w fun e w' => e = .returned (.int .i64 (bothE st k i o k2 i2 o2)) ∧ Below w.heap.size w w' := by
  unfold vT bothE
  have HR : ∀ k' i' o', -9223372036854775808 ≤ i' → i' ≤ 9223372036854775807 → Hid (ReachQ w g k i o k2 i2 o2 k' i' o' (reachE st k' i' o' 0)) := fun k' i' o' h0 h1 => Lib.hid (fun W hW => by
    obtain ⟨P, S, hf⟩ := reachR_form st L k' i' o' 0
    have := reach_any (h.below hW.below) k' i' o' 0 h0 h1 (Int.le_refl _)
    rw [hf] at this
    exact this.mono fun e w' ⟨x, y⟩ => ⟨⟨P, S, x⟩, hW.after y⟩)
  by_cases hk : k = 2
  · by_cases hk2 : k2 = 2
    · subst hk hk2
      rw [if_neg (by simp)]
      have HP := HR 2 i o i0 i1
      have HQ := HR 2 i2 o2 j0 j1
      by_cases e1 : reachE st 2 i o 0 = 0
      · rw [if_neg (fun h => h e1)]
        rw [e1] at HP
        by_cases e2 : reachE st 2 i2 o2 0 = 0
        · rw [if_neg (fun h => h e2)]
          rw [e2] at HQ
          by_cases hi : i = i2
          · rw [if_neg (fun h => h hi)]
            exact both_4 HP HQ (by simpa using hi)
          · rw [if_pos hi]
            exact both_3 HP HQ (by simpa using hi)
        · rw [if_pos e2]
          exact both_2 HP HQ (by simpa using e2)
      · rw [if_pos e1]
        exact both_1 HP (by simpa using e1)
    · rw [if_pos (.inr hk2)]
      exact both_kind (.inr ⟨hk, by simpa using hk2⟩)
  · rw [if_pos (.inl hk)]
    exact both_kind (.inl (by simpa using hk))
end
end Go.Proofs.YtejhphnlickjlaaDoor.bl
namespace Go.Proofs.YtejhphnlickjlaaDoor.bl
open Go.RowKit
open M ty
set_option linter.unusedVariables false
/-- what it is that reach has no error -/
theorem reach_zero {st : St} {k i o n : Int} (h : reachE st k i o n = 0) : k = 2 ∧ 1 ≤ i ∧ i ≤ st.bl.length ∧ 0 ≤ o ∧ ∃ b, st.bl[(i - 1).toNat]? = some b ∧ b.dead = false ∧ o ≤ b.bs.length ∧ n ≤ b.bs.length - o := by
  unfold reachE at h
  split at h
  · exact absurd h (by decide)
  · rename_i h1
    split at h
    · exact absurd h (by decide)
    · rename_i b hb
      split at h
      · exact absurd h (by decide)
      · rename_i hd
        split at h
        · exact absurd h (by decide)
        · rename_i h3
          have hk : k = 2 := by
            rcases Int.decEq k 2 with h | h
            · exact absurd (Or.inl h) h1
            · exact h
          refine ⟨hk, by omega, by omega, by omega, b, hb, by simpa using hd, by omega, by omega⟩
theorem both_zero {st : St} {k i o k2 i2 o2 : Int} (h : bothE st k i o k2 i2 o2 = 0) : reachE st k i o 0 = 0 ∧ reachE st k2 i2 o2 0 = 0 ∧ i = i2 := by
  unfold bothE at h
  split at h
  · exact absurd h (by decide)
  · split at h
    · rename_i h1
      exact absurd h h1
    · rename_i h1
      split at h
      · rename_i h2
        exact absurd h h2
      · rename_i h2
        split at h
        · exact absurd h (by decide)
        · rename_i h3
          exact ⟨Decidable.not_not.1 h1, Decidable.not_not.1 h2, Decidable.not_not.1 h3⟩
def BothQ (w : World) (g : Nat) (k i o k2 i2 o2 E : Int) : Prop := ∀ W, EnvQ w W k i o k2 i2 o2 → Calls Tryd.prog 70 #[.pointer (some ⟨g, 0, none⟩), .agg #[.int .i64 k, .int .i64 i, .int .i64 o], .agg #[.int .i64 k2, .int .i64 i2, .int .i64 o2]] W fun e w' => e = .returned (.int .i64 E) ∧ EnvQ w w' k i o k2 i2 o2
section
variable {w : World} {g : Nat} {k i o k2 i2 o2 E : Int}
set_option maxRecDepth 20000 in
theorem below_w (HB : Hid (BothQ w g k i o k2 i2 o2 E)) : Calls Tryd.prog 30 #[.pointer (some ⟨g, 0, none⟩), .agg #[.int .i64 k, .int .i64 i, .int .i64 o], .agg #[.int .i64 k2, .int .i64 i2, .int .i64 o2]] w fun e w' => e = .returned (.tuple #[.bool (decide (E = 0) && decide (o < o2)), .int .i64 E]) ∧ Below w.heap.size w w' := by
  by_cases hE : E = 0
  · subst hE
    go_enter Tryd.func30, Tryd.ntmps30
    go_wp2_with (go_at_call 70; refine (HB.out _ (EnvQ.new w k i o k2 i2 o2)).mono ?_; rintro e w1 ⟨rfl, h1⟩; obtain ⟨c0, c1, c2, c3, c4, c5⟩ := h1.cells; have H1 := Lib.hid h1; clear h1)
    go_ret2
    exact ⟨by simp, H1.out.below⟩
  · have h2 : (E != 0) = true := by simpa using hE
    rw [decide_eq_false hE, Bool.false_and]
    go_enter Tryd.func30, Tryd.ntmps30
    go_wp2_with (go_at_call 70; refine (HB.out _ (EnvQ.new w k i o k2 i2 o2)).mono ?_; rintro e w1 ⟨rfl, h1⟩; have H1 := Lib.hid h1; clear h1)
    go_ret2
    exact ⟨rfl, H1.out.below⟩
set_option maxRecDepth 20000 in
theorem apart_w (HB : Hid (BothQ w g k i o k2 i2 o2 E)) (hb : E = 0 → 0 ≤ o ∧ o ≤ 131072 ∧ 0 ≤ o2 ∧ o2 ≤ 131072) : Calls Tryd.prog 29 #[.pointer (some ⟨g, 0, none⟩), .agg #[.int .i64 k, .int .i64 i, .int .i64 o], .agg #[.int .i64 k2, .int .i64 i2, .int .i64 o2]] w fun e w' => e = .returned (.tuple #[.int .i64 (if E = 0 then o - o2 else 0), .int .i64 E]) ∧ Below w.heap.size w w' := by
  by_cases hE : E = 0
  · subst hE
    obtain ⟨b0, b1, b2, b3⟩ := hb rfl
    rw [if_pos rfl]
    clear hb
    go_enter Tryd.func29, Tryd.ntmps29
    go_wp2_with (go_at_call 70; refine (HB.out _ (EnvQ.new w k i o k2 i2 o2)).mono ?_; rintro e w1 ⟨rfl, h1⟩; obtain ⟨c0, c1, c2, c3, c4, c5⟩ := h1.cells; have H1 := Lib.hid h1; clear h1)
    go_ret2
    exact ⟨rfl, H1.out.below⟩
  · have h2 : (E != 0) = true := by simpa using hE
    rw [if_neg hE]
    clear hb
    go_enter Tryd.func29, Tryd.ntmps29
    go_wp2_with (go_at_call 70; refine (HB.out _ (EnvQ.new w k i o k2 i2 o2)).mono ?_; rintro e w1 ⟨rfl, h1⟩; have H1 := Lib.hid h1; clear h1)
    go_ret2
    exact ⟨rfl, H1.out.below⟩
end
section
variable {w : World} {B g N : Nat} {st : St} {L : Lay}
theorem bothQ_of (h : Sto w B g N st L) (k i o k2 i2 o2 : Int) (i0 : -9223372036854775808 ≤ i) (i1 : i ≤ 9223372036854775807) (j0 : -9223372036854775808 ≤ i2) (j1 : i2 ≤ 9223372036854775807) : Hid (BothQ w g k i o k2 i2 o2 (bothE st k i o k2 i2 o2)) :=
  Lib.hid (fun W hW => (both_any (h.below hW.below) k i o k2 i2 o2 i0 i1 j0 j1).mono fun e w' ⟨x, y⟩ => ⟨x, hW.after y⟩)
theorem reach_bd (h : Sto w B g N st L) {k i o n : Int} (h0 : reachE st k i o n = 0) : 0 ≤ o ∧ o ≤ 131072 := by
  obtain ⟨_, _, _, h1, b, hb, _, h2, _⟩ := reach_zero h0
  have := (h.body _ b hb).2.2.2.2
  omega
theorem below_any (h : Sto w B g N st L) (k i o k2 i2 o2 : Int) (i0 : -9223372036854775808 ≤ i) (i1 : i ≤ 9223372036854775807) (j0 : -9223372036854775808 ≤ i2) (j1 : i2 ≤ 9223372036854775807) :
    Calls Tryd.prog 30 #[.pointer (some ⟨g, 0, none⟩), vT k i o, vT k2 i2 o2] w fun e w' => e = .returned (.tuple #[.bool (decide (bothE st k i o k2 i2 o2 = 0) && decide (o < o2)), .int .i64 (bothE st k i o k2 i2 o2)]) ∧ Below w.heap.size w w' := by
  unfold vT
  exact below_w (bothQ_of h k i o k2 i2 o2 i0 i1 j0 j1)
theorem apart_any (h : Sto w B g N st L) (k i o k2 i2 o2 : Int) (i0 : -9223372036854775808 ≤ i) (i1 : i ≤ 9223372036854775807) (j0 : -9223372036854775808 ≤ i2) (j1 : i2 ≤ 9223372036854775807) :
    Calls Tryd.prog 29 #[.pointer (some ⟨g, 0, none⟩), vT k i o, vT k2 i2 o2] w fun e w' => e = .returned (.tuple #[.int .i64 (if bothE st k i o k2 i2 o2 = 0 then o - o2 else 0), .int .i64 (bothE st k i o k2 i2 o2)]) ∧ Below w.heap.size w w' := by
  unfold vT
  refine apart_w (bothQ_of h k i o k2 i2 o2 i0 i1 j0 j1) (fun h0 => ?_)
  obtain ⟨h1, h2, _⟩ := both_zero h0
  have a := reach_bd h h1
  have b := reach_bd h h2
  omega
end
end Go.Proofs.YtejhphnlickjlaaDoor.bl
