/-
  Contracts of package block: of, alive, fixed, ptr. Condition: a store stands in memory.
-/
import Derived.Test.YtejhphnlickjlaaDoorBlK
import Derived.Test.YtejhphnlickjlaaDoorVaD
import Derived.Handy
set_option linter.unusedVariables false
set_option linter.unusedSimpArgs false
namespace Go.Proofs.YtejhphnlickjlaaDoor.bl
open Go.RowKit
open M
set_option linter.unusedVariables false
theorem add_flat (r j : Nat) : (⟨r, 0, none⟩ : Addr).add j = ⟨r, j, none⟩ := by unfold Addr.add; split <;> simp_all
/-- what of hands back -/
def ofP (st : St) (L : Lay) (b : Int) : Value := if 1 ≤ b ∧ b ≤ st.bl.length then .pointer (some ⟨L.pb (b - 1).toNat, 0, none⟩) else .pointer none
section
variable {w : World} {B g N : Nat} {st : St} {L : Lay}
theorem Sto.topc (h : Sto w B g N st L) : w.cell? ⟨g, 0, none⟩ = some (.slice L.A st.bl.length L.c) ∧ w.cell? ⟨g, 1, none⟩ = some (.int .i64 st.live) ∧ w.cell? ⟨g, 2, none⟩ = some (.int .i64 st.sum) ∧ w.cell? ⟨g, 3, none⟩ = some (.map (some L.gm)) :=
  ⟨Go.Joins.cell_of_block h.top 0, Go.Joins.cell_of_block h.top 1, Go.Joins.cell_of_block h.top 2, Go.Joins.cell_of_block h.top 3⟩
theorem Sto.topf (h : Sto w B g N st L) : w.frozen? ⟨g, 0, none⟩ = false ∧ w.frozen? ⟨g, 1, none⟩ = false ∧ w.frozen? ⟨g, 2, none⟩ = false ∧ w.frozen? ⟨g, 3, none⟩ = false :=
  ⟨Go.Joins.unfrozen_of_block h.top 0, Go.Joins.unfrozen_of_block h.top 1, Go.Joins.unfrozen_of_block h.top 2, Go.Joins.unfrozen_of_block h.top 3⟩
theorem Sto.rowAt (h : Sto w B g N st L) {j : Nat} (hj : j < st.bl.length) : ∃ r, L.A = some ⟨r, 0, none⟩ ∧ w.cell? ⟨r, j, none⟩ = some (.pointer (some ⟨L.pb j, 0, none⟩)) := by
  rcases h.row.2 with ⟨hv, h0⟩ | ⟨r, cap, cur, hv, _⟩
  · omega
  · have hA : L.A = some ⟨r, 0, none⟩ := by injection hv
    refine ⟨r, hA, ?_⟩
    have := h.row.cells (g := r) (by rw [hA]; rfl) j _ (ptrs_get L.pb st.bl.length j hj)
    rwa [add_flat] at this
theorem of_any (h : Sto w B g N st L) (b : Int) (hb0 : -9223372036854775808 ≤ b) (hb1 : b ≤ 9223372036854775807) :
    Calls Tryd.prog 67 #[.pointer (some ⟨g, 0, none⟩), .int .i64 b] w fun e w' => e = .returned (ofP st L b) ∧ w' = w := by
  unfold ofP
  obtain ⟨c0, -, -, -⟩ := h.topc
  by_cases hb : 1 ≤ b ∧ b ≤ st.bl.length
  · rw [if_pos hb]
    obtain ⟨j, rfl⟩ : ∃ j : Nat, b = (j : Int) + 1 := ⟨(b - 1).toNat, by omega⟩
    obtain ⟨r, hA, hc⟩ := h.rowAt (j := j) (by omega)
    rw [hA] at c0
    have e1 : ((j : Int) + 1 - 1).toNat = j := by omega
    rw [e1]
    have h1 : ¬ ((j : Int) + 1 < 1) := by omega
    have h2 : ¬ ((st.bl.length : Int) < (j : Int) + 1) := by omega
    have h3 : (j : Int) < (st.bl.length : Int) := by omega
    clear h hA hb
    generalize st.bl.length = n at *
    go_enter Tryd.func67, Tryd.ntmps67
    go_wp2_with fail
    go_ret
    exact ⟨rfl, rfl⟩
  · rw [if_neg hb]
    by_cases h1 : b < 1
    · clear h hb
      go_enter Tryd.func67, Tryd.ntmps67
      go_wp2_with fail
      go_ret
      exact ⟨rfl, rfl⟩
    · have h2 : (st.bl.length : Int) < b := by omega
      clear h hb
      generalize st.bl.length = n at *
      go_enter Tryd.func67, Tryd.ntmps67
      go_wp2_with fail
      go_ret
      exact ⟨rfl, rfl⟩
theorem alive_any (p : Nat) (b : Bk) (y : Nat) (w : World) (hp : w.heap[p]? = some (.cells (b.cells y) 102 (0, 0))) :
    Calls Tryd.prog 68 #[.pointer (some ⟨p, 0, none⟩)] w fun e w' => e = .returned (.bool (!b.dead)) ∧ w' = w := by
  have c1 : w.cell? ⟨p, 1, none⟩ = some (.bool b.dead) := Go.Joins.cell_of_block hp 1
  clear hp
  generalize b.dead = d at *
  go_enter Tryd.func68, Tryd.ntmps68
  go_wp2_with fail
  go_ret
  exact ⟨rfl, rfl⟩
end
end Go.Proofs.YtejhphnlickjlaaDoor.bl
