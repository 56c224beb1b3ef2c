/-
  A list of calls opened: an argument of the laws of package catapultlaw14. No condition.
-/
import Derived.Test.YtejhphnlickjlaaDoorBmI
import Derived.ProofKit
import Derived.Deep.Slices
set_option linter.unusedVariables false
set_option linter.unusedSimpArgs false
namespace Go.Proofs.YtejhphnlickjlaaDoor.bl
open Go.ChangeShapes Go.WideShapes Go.ChangeAt Go.RowKit Go.Deep
open M ty
set_option linter.unusedVariables false
theorem in64_wf {x : Int} (h : (Lit.int .i64 x).wf = true) : In64 x := by
  simp only [Lit.wf, IntKind.min, IntKind.max, IntKind.signed, IntKind.bits, Bool.and_eq_true, decide_eq_true_eq, if_true] at h
  unfold In64
  omega
theorem c3 : Tryd.prog.cellsOf 3 = 1 := by kernel_rfl
theorem c9 : Tryd.prog.cellsOf 9 = 1 := by kernel_rfl
theorem c22 : Tryd.prog.cellsOf 22 = 1 := by kernel_rfl
theorem c24 : Tryd.prog.cellsOf 24 = 3 := by kernel_rfl
theorem c63 : Tryd.prog.cellsOf 63 = 14 := by kernel_rfl
theorem b63 : Tryd.prog.bytesOf 63 = 128 := by kernel_rfl
section
variable {H : Type} {enc : TypeId × Value → H} {W : World} {base : Nat} {spare : Nat → Bool} {held : Bool} {fuel : Nat}
theorem open_val {a b c : Value} {x : DataW H × List MemPlace} (h : DataW.trod enc Tryd.prog W base spare held fuel 24 [a, b, c] = some x) : ∃ k i o, a = .int .i64 k ∧ b = .int .i64 i ∧ c = .int .i64 o ∧ In64 k ∧ In64 i ∧ In64 o := by
  obtain ⟨xs, n, rfl, hx, hlen, hxl, hf⟩ := DataW.trod_struct Tryd.underlying24 h
  have hl : xs.length = 3 := hxl
  have g0 := hf 0 _ rfl
  have g1 := hf 1 _ rfl
  have g2 := hf 2 _ rfl
  rw [List.getElem?_eq_getElem (by omega)] at g0 g1 g2
  simp [c3] at g0 g1 g2
  obtain ⟨k, e0, _, w0⟩ := DataW.trod_int Tryd.underlying3 g0
  obtain ⟨i, e1, _, w1⟩ := DataW.trod_int Tryd.underlying3 g1
  obtain ⟨o, e2, _, w2⟩ := DataW.trod_int Tryd.underlying3 g2
  simp at e0 e1 e2
  exact ⟨k, i, o, e0, e1, e2, in64_wf w0, in64_wf w1, in64_wf w2⟩
theorem open_act {cs : List Value} {x : DataW H × List MemPlace} (h : DataW.trod enc Tryd.prog W base spare held fuel 63 cs = some x) : ∃ y : Ac, cs = y.cells ∧ AcOk y := by
  obtain ⟨xs, n, rfl, hx, hlen, hxl, hf⟩ := DataW.trod_struct Tryd.underlying63 h
  have hl : xs.length = 8 := hxl
  rw [c63] at hlen
  have g0 := hf 0 _ rfl
  have g1 := hf 1 _ rfl
  have g2 := hf 2 _ rfl
  have g3 := hf 3 _ rfl
  have g4 := hf 4 _ rfl
  have g5 := hf 5 _ rfl
  have g6 := hf 6 _ rfl
  have g7 := hf 7 _ rfl
  rw [List.getElem?_eq_getElem (by omega)] at g0 g1 g2 g3 g4 g5 g6 g7
  have step : ∀ {l : List Value} {k : Nat}, l.length = k + 1 → ∃ v t, l = v :: t ∧ t.length = k := fun {l k} h => by
    cases l with
    | nil => simp at h
    | cons v t => exact ⟨v, t, rfl, by simpa using h⟩
  obtain ⟨v0, t0, rfl, l0⟩ := step hlen
  obtain ⟨v1, t1, rfl, l1⟩ := step l0
  obtain ⟨v2, t2, rfl, l2⟩ := step l1
  obtain ⟨v3, t3, rfl, l3⟩ := step l2
  obtain ⟨v4, t4, rfl, l4⟩ := step l3
  obtain ⟨v5, t5, rfl, l5⟩ := step l4
  obtain ⟨v6, t6, rfl, l6⟩ := step l5
  obtain ⟨v7, t7, rfl, l7⟩ := step l6
  obtain ⟨v8, t8, rfl, l8⟩ := step l7
  obtain ⟨v9, t9, rfl, l9⟩ := step l8
  obtain ⟨v10, t10, rfl, l10⟩ := step l9
  obtain ⟨v11, t11, rfl, l11⟩ := step l10
  obtain ⟨v12, t12, rfl, l12⟩ := step l11
  obtain ⟨v13, t13, rfl, l13⟩ := step l12
  obtain rfl := List.eq_nil_of_length_eq_zero l13
  · skip
    simp [c3, c9, c22, c24] at g0 g1 g2 g3 g4 g5 g6 g7
    obtain ⟨a0, e0, _, w0⟩ := DataW.trod_int Tryd.underlying3 g0
    obtain ⟨a1, e1, _, w1⟩ := DataW.trod_int Tryd.underlying3 g1
    obtain ⟨a2, e2, _, w2⟩ := DataW.trod_int Tryd.underlying3 g2
    obtain ⟨pk, pi, po, rfl, rfl, rfl, hp1, hp2, hp3⟩ := open_val g3
    obtain ⟨qk, qi, qo, rfl, rfl, rfl, hq1, hq2, hq3⟩ := open_val g4
    obtain ⟨vk, vi, vo, rfl, rfl, rfl, hv1, hv2, hv3⟩ := open_val g5
    obtain ⟨t, e6, _, ht⟩ := DataW.trod_string Tryd.underlying22 g6
    obtain ⟨u, e7, _, hu⟩ := DataW.trod_string Tryd.underlying9 g7
    simp at e0 e1 e2 e6 e7
    subst e0 e1 e2 e6 e7
    exact ⟨⟨a0, a1, a2, pk, pi, po, qk, qi, qo, vk, vi, vo, t, u⟩, rfl, in64_wf w1, hp2, hq2, ht⟩
theorem open_acts {v : Value} {x : DataW H × List MemPlace} (h : DataW.trod enc Tryd.prog W base (fun _ => true) true fuel 37 v.cells.toList = some x) (hs : ∃ A n c, v = .slice A n c) :
    ∃ (A : Option Addr) (n c : Nat) (l : List Ac), v = .slice A n c ∧ l.length = n ∧ n ≤ c ∧ c ≤ maxLen ∧ Rd W W.heap.size A (acs l) ∧ (∀ y ∈ l, AcOk y) ∧ (x.1 = .nil ∧ n = 0 ∨ ∃ es sp, x.1 = .slice es sp ∧ es.length + sp.length = c) := by
  obtain ⟨A, n, c, rfl⟩ := hs
  rcases open_slice Tryd.underlying37 h with ⟨hcs, rfl⟩ | ⟨a, len, cap, m, k, D, Pl, hcs, hb, hl, hm, hmm, rfl, hx⟩
  · simp [Value.cells] at hcs
    obtain ⟨rfl, rfl, rfl⟩ := hcs
    exact ⟨none, 0, 0, [], rfl, rfl, Nat.le_refl _, by simp [maxLen], Rd.nil, by simp, .inl ⟨rfl, rfl⟩⟩
  · simp [Value.cells] at hcs
    obtain ⟨rfl, rfl, rfl⟩ := hcs
    simp only [if_true] at hmm
    subst hmm
    rw [c63] at hx
    have each : ∀ i, i < n → ∃ y : Ac, (∀ r v, y.cells[r]? = some v → W.cell? (a.add (i * 14 + r)) = some v) ∧ AcOk y := fun i hi => by
      obtain ⟨cs', h1, h2⟩ := hx i (by omega)
      obtain ⟨_, hlen, hcell⟩ := World.cells?_some h1
      obtain ⟨y, rfl, hy⟩ := open_act h2
      refine ⟨y, fun r v hv => ?_, hy⟩
      have hr : r < 14 := by
        have := (List.getElem?_eq_some_iff.1 hv).1
        simpa [Ac.cells] using this
      rw [← M.add_add, hcell r hr, hv]
    haveI : Inhabited Ac := ⟨⟨0, 0, 0, 0, 0, 0, 0, 0, 0, 0, 0, 0, ⟨#[]⟩, ⟨#[]⟩⟩⟩
    obtain ⟨f, hF⟩ := choose_lt each
    have hlen : ((List.range n).map f).length = n := by simp
    refine ⟨some a, n, m, (List.range n).map f, rfl, hlen, hl, hm, ?_, fun y hy => ?_, .inr ⟨_, _, rfl, by simp; omega⟩⟩
    · intro hne
      have hn0 : 0 < n := by
        rcases Nat.eq_zero_or_pos n with h | h
        · subst h; exact absurd rfl hne
        · exact h
      have cell : ∀ j u, (acs ((List.range n).map f))[j]? = some u → W.cell? (a.add j) = some u := fun j u hu => by
        have hj : j < n * 14 := by
          have := (List.getElem?_eq_some_iff.1 hu).1
          rwa [acs_length, hlen] at this
        have hi : j / 14 < n := by omega
        have hr : j % 14 < 14 := Nat.mod_lt _ (by omega)
        have hg : ((List.range n).map f)[j / 14]? = some (f (j / 14)) := by simp [List.getElem?_range hi]
        rw [show j = j / 14 * 14 + j % 14 by omega, acs_get _ _ _ _ hg hr] at hu
        have := (hF (j / 14) hi).1 (j % 14) u hu
        rwa [show j / 14 * 14 + j % 14 = j by omega] at this
      refine ⟨a, rfl, ?_, cell⟩
      have h0 := cell 0 (.int .i64 (f 0).kind) (by rw [show (0 : Nat) = 0 * 14 + 0 by omega, acs_get _ 0 0 (f 0) (by simp [List.getElem?_range hn0]) (by omega)]; rfl)
      have := World.block_lt_of_cell? W _ h0
      rwa [M.block_add] at this
    · obtain ⟨i, hi, rfl⟩ := List.mem_map.1 hy
      exact (hF i (List.mem_range.1 hi)).2
end
end Go.Proofs.YtejhphnlickjlaaDoor.bl
