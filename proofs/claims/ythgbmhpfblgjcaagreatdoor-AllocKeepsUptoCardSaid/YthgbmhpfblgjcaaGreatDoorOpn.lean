/-
  A function of three-address code opened: an argument of the laws of package catapultlaw24. No condition.
-/
import Derived.Test.YthgbmhpfblgjcaaGreatDoorExM
import Derived.Test.YthgbmhpfblgjcaaGreatDoorRows
import Derived.ProofKit
import Derived.OpenShut
import Derived.Deep.Slices
set_option linter.unusedVariables false
set_option linter.unusedSimpArgs false
namespace Go.Proofs.YthgbmhpfblgjcaaGreatDoor.fl
open Go.ChangeShapes Go.WideShapes Go.ChangeAt Go.RowKit Go.Deep
open M T ty
set_option linter.unusedVariables false
theorem bulk_one {H : Type} (d : DataW H) : 1 ≤ Rows.uptoBulk d := by
  cases d with
  | lit l => cases l <;> simp [Rows.uptoBulk]
  | nil => simp [Rows.uptoBulk]
  | ptr d => simp [Rows.uptoBulk]
  | slice elems spare => simp [Rows.uptoBulk]
  | agg parts => simp [Rows.uptoBulk]
  | iface t d => simp [Rows.uptoBulk]
  | map entries => simp [Rows.uptoBulk]
  | held h => simp [Rows.uptoBulk]
theorem bulk_part {H : Type} {d : DataW H} {l : List (DataW H)} (h : d ∈ l) : Rows.uptoBulk d ≤ Rows.uptoBulkAll l := by
  induction l with
  | nil => cases h
  | cons x r ih =>
    simp only [Rows.uptoBulkAll]
    rcases List.mem_cons.1 h with e | e
    · subst e; omega
    · have := ih e; omega
theorem bulk_len {H : Type} (l : List (DataW H)) : l.length ≤ Rows.uptoBulkAll l := by
  induction l with
  | nil => simp [Rows.uptoBulkAll]
  | cons x r ih => have := bulk_one x; simp only [Rows.uptoBulkAll, List.length_cons]; omega
theorem c3 : Tryz.prog.cellsOf 3 = 1 := by kernel_rfl
theorem c4 : Tryz.prog.cellsOf 4 = 1 := by kernel_rfl
theorem c9 : Tryz.prog.cellsOf 9 = 1 := by kernel_rfl
theorem c22 : Tryz.prog.cellsOf 22 = 1 := by kernel_rfl
theorem c23 : Tryz.prog.cellsOf 23 = 1 := by kernel_rfl
theorem c27 : Tryz.prog.cellsOf 27 = 1 := by kernel_rfl
theorem c48 : Tryz.prog.cellsOf 48 = 1 := by kernel_rfl
theorem c25 : Tryz.prog.cellsOf 25 = 5 := by kernel_rfl
theorem c50 : Tryz.prog.cellsOf 50 = 5 := by kernel_rfl
theorem c52 : Tryz.prog.cellsOf 52 = 6 := by kernel_rfl
theorem c72 : Tryz.prog.cellsOf 72 = 7 := by kernel_rfl
theorem c127 : Tryz.prog.cellsOf 127 = 3 := by kernel_rfl
theorem list_step {l : List Value} {k : Nat} (h : l.length = k + 1) : ∃ v t, l = v :: t ∧ t.length = k := by
  cases l with
  | nil => simp at h
  | cons v t => exact ⟨v, t, rfl, by simpa using h⟩
section
variable {H : Type} {enc : TypeId × Value → H} {W : World} {base : Nat} {held : Bool} {fuel : Nat}
/-- a slice whose elements are opened each -/
theorem open_rows {α : Type} [Inhabited α] {t e : TypeId} {size : Nat} (ht : Tryz.prog.underlying t = some (.slice e)) (hc : Tryz.prog.cellsOf e = size) (hs : 0 < size) (OK : α → List Value → DataW H → Prop)
    (each : ∀ (n : Nat) (cs : List Value) (x : DataW H × List MemPlace), DataW.trod enc Tryz.prog W base (fun _ => true) true n e cs = some x → ∃ y, OK y cs x.1)
    {v : Value} {x : DataW H × List MemPlace} (h : DataW.trod enc Tryz.prog W base (fun _ => true) true fuel t [v] = some x) :
    ∃ (A : Option Addr) (n c : Nat) (F : Nat → α) (D : Nat → DataW H), v = .slice A n c ∧ n ≤ c ∧ c ≤ maxLen ∧ (0 < n → ∃ ad, A = some ad ∧ ad.block < W.heap.size ∧ ∀ i, i < n → ∃ cs, OK (F i) cs (D i) ∧ ∀ r u, cs[r]? = some u → W.cell? (ad.add (i * size + r)) = some u) ∧ (∀ i, i < n → Rows.uptoBulk (D i) + 1 ≤ Rows.uptoBulk x.1) ∧ n + 1 ≤ Rows.uptoBulk x.1 + 0 := by
  rcases open_slice ht h with ⟨hcs, rfl⟩ | ⟨a, len, cap, m, k, D, Pl, hcs, hb, hl, hm, hmm, rfl, hx⟩
  · obtain rfl : v = .slice none 0 0 := by simpa using hcs
    exact ⟨none, 0, 0, fun _ => default, fun _ => .nil, rfl, Nat.le_refl _, by simp [maxLen], fun h => by omega, fun i hi => by omega, by simp [Rows.uptoBulk]⟩
  · obtain rfl : v = .slice (some a) len cap := by simpa using hcs
    simp only [if_true] at hmm
    subst hmm
    rw [hc] at hx
    have key : ∀ i, i < len → ∃ y : α, ∃ cs, OK y cs (D i) ∧ cs.length = size ∧ ∀ r u, cs[r]? = some u → W.cell? (a.add (i * size + r)) = some u := fun i hi => by
      obtain ⟨cs', h1, h2⟩ := hx i (by omega)
      obtain ⟨_, hlen, hcell⟩ := World.cells?_some h1
      obtain ⟨y, hy⟩ := each k cs' _ h2
      refine ⟨y, cs', hy, hlen, fun r u hu => ?_⟩
      have hr : r < size := by
        have := (List.getElem?_eq_some_iff.1 hu).1
        omega
      rw [← M.add_add, hcell r hr, hu]
    obtain ⟨F, hF⟩ := choose_lt key
    refine ⟨some a, len, m, F, D, rfl, hl, hm, fun h0 => ⟨a, rfl, ?_, fun i hi => ?_⟩, fun i hi => ?_, ?_⟩
    · obtain ⟨cs, -, hlen, hcell⟩ := hF 0 h0
      have := World.block_lt_of_cell? W _ (hcell 0 _ (List.getElem?_eq_getElem (by omega)))
      rwa [M.block_add] at this
    · obtain ⟨cs, h1, -, h2⟩ := hF i hi
      exact ⟨cs, h1, h2⟩
    · have : D i ∈ (List.range len).map D := List.mem_map.2 ⟨i, List.mem_range.2 hi, rfl⟩
      have := bulk_part this
      simp only [Rows.uptoBulk]
      omega
    · have := bulk_len ((List.range len).map D)
      simp only [List.length_map, List.length_range] at this
      simp only [Rows.uptoBulk]
      omega
/-- a list of numbers -/
theorem open_args {v : Value} {x : DataW H × List MemPlace} (h : DataW.trod enc Tryz.prog W base (fun _ => true) true fuel 27 [v] = some x) : ∃ (A : Option Addr) (c : Nat) (l : List Int), v = .slice A l.length c ∧ Rd W W.heap.size A (ints l) ∧ l.length + 1 ≤ Rows.uptoBulk x.1 := by
  obtain ⟨A, n, c, F, D, rfl, -, -, hr, -, hn⟩ := open_rows (α := Int) Tryz.underlying27 c3 (by decide) (fun y cs _ => cs = [.int .i64 y]) (fun n cs x hx => by
    obtain ⟨a, e, _, _⟩ := DataW.trod_int Tryz.underlying3 hx
    exact ⟨a, e⟩) h
  refine ⟨A, c, (List.range n).map F, by simp, ?_, by simpa using hn⟩
  intro hne
  have h0 : 0 < n := by
    rcases Nat.eq_zero_or_pos n with h | h
    · subst h; exact absurd rfl hne
    · exact h
  obtain ⟨ad, e, hb, hc⟩ := hr h0
  refine ⟨ad, e, hb, fun j u hu => ?_⟩
  unfold ints at hu
  rw [List.getElem?_map, List.getElem?_map] at hu
  obtain ⟨y, hy, rfl⟩ := Option.map_eq_some_iff.1 hu
  obtain ⟨i, hi, rfl⟩ := Option.map_eq_some_iff.1 hy
  have hj : j < n := by
    have := (List.getElem?_eq_some_iff.1 hi).1
    simpa using this
  rw [List.getElem?_range hj] at hi
  obtain rfl := Option.some.inj hi
  obtain ⟨cs, rfl, hcell⟩ := hc j hj
  have := hcell 0 _ rfl
  simpa using this
/-- an operation -/
theorem open_op {cs : List Value} {x : DataW H × List MemPlace} (h : DataW.trod enc Tryz.prog W base (fun _ => true) true fuel 72 cs = some x) :
    ∃ y : Op × Option Addr × Nat, cs = opCells y.1 y.2.1 y.2.2 ∧ Rd W W.heap.size y.2.1 (ints y.1.args) ∧ y.1.text.size ≤ Rows.uptoBulk x.1 ∧ y.1.args.length ≤ Rows.uptoBulk x.1 := by
  obtain ⟨xs, n, _, rfl, hlen, hxl, hf⟩ := DataW.trod_struct Tryz.underlying72 h
  have hl : xs.length = 7 := hxl
  rw [c72] at hlen
  have g0 := hf 0 _ rfl
  have g1 := hf 1 _ rfl
  have g2 := hf 2 _ rfl
  have g3 := hf 3 _ rfl
  have g4 := hf 4 _ rfl
  have g5 := hf 5 _ rfl
  have g6 := hf 6 _ rfl
  rw [List.getElem?_eq_getElem (by omega)] at g0 g1 g2 g3 g4 g5 g6
  obtain ⟨v0, t0, rfl, l0⟩ := list_step hlen
  obtain ⟨v1, t1, rfl, l1⟩ := list_step l0
  obtain ⟨v2, t2, rfl, l2⟩ := list_step l1
  obtain ⟨v3, t3, rfl, l3⟩ := list_step l2
  obtain ⟨v4, t4, rfl, l4⟩ := list_step l3
  obtain ⟨v5, t5, rfl, l5⟩ := list_step l4
  obtain ⟨v6, t6, rfl, l6⟩ := list_step l5
  obtain rfl := List.eq_nil_of_length_eq_zero l6
  simp [c3, c9, c27] at g0 g1 g2 g3 g4 g5 g6
  obtain ⟨a0, e0, _, w0⟩ := DataW.trod_int Tryz.underlying3 g0
  obtain ⟨a1, e1, _, w1⟩ := DataW.trod_int Tryz.underlying3 g1
  obtain ⟨a2, e2, _, w2⟩ := DataW.trod_int Tryz.underlying3 g2
  obtain ⟨a3, e3, _, w3⟩ := DataW.trod_int Tryz.underlying3 g3
  obtain ⟨a4, e4, _, w4⟩ := DataW.trod_int Tryz.underlying3 g4
  obtain ⟨t, e5, d5, ht⟩ := DataW.trod_string Tryz.underlying9 g5
  obtain ⟨A, c, l, e6, hr, hn⟩ := open_args g6
  simp at e0 e1 e2 e3 e4 e5
  subst e0 e1 e2 e3 e4 e5 e6
  have m5 : (xs[5]'(by omega)).1 ∈ xs.map (·.1) := List.mem_map.2 ⟨_, List.getElem_mem _, rfl⟩
  have m6 : (xs[6]'(by omega)).1 ∈ xs.map (·.1) := List.mem_map.2 ⟨_, List.getElem_mem _, rfl⟩
  have b5 := bulk_part m5
  have b6 := bulk_part m6
  rw [d5] at b5
  have e5 : t.data.toList.length = t.size := by rw [Array.length_toList]; rfl
  simp only [Rows.uptoBulk] at b5 ⊢
  exact ⟨(⟨a0, a1, a2, a3, a4, t, l⟩, A, c), rfl, hr, by show t.size ≤ _; omega, by show l.length ≤ _; omega⟩
instance : Inhabited Op := ⟨⟨0, 0, 0, 0, 0, ⟨#[]⟩, []⟩⟩
instance : Inhabited Bl := ⟨⟨[], ⟨0, 0, 0, 0, 0⟩⟩⟩
instance : Inhabited Slot := ⟨⟨0, 0, false⟩⟩
/-- a list of operations -/
theorem open_ops {v : Value} {x : DataW H × List MemPlace} (h : DataW.trod enc Tryz.prog W base (fun _ => true) true fuel 48 [v] = some x) :
    ∃ (A : Option Addr) (c : Nat) (l : List Op) (AA : Nat → Option Addr) (ac : Nat → Nat), v = .slice A l.length c ∧ OpsAt W W.heap.size A l AA ac ∧ l.length + 1 ≤ Rows.uptoBulk x.1 ∧ ∀ o ∈ l, o.text.size ≤ Rows.uptoBulk x.1 ∧ o.args.length ≤ Rows.uptoBulk x.1 := by
  obtain ⟨A, n, c, F, D, rfl, -, -, hr, hd, hn⟩ := open_rows (α := Op × Option Addr × Nat) Tryz.underlying48 c72 (by decide) (fun y cs d => cs = opCells y.1 y.2.1 y.2.2 ∧ Rd W W.heap.size y.2.1 (ints y.1.args) ∧ y.1.text.size ≤ Rows.uptoBulk d ∧ y.1.args.length ≤ Rows.uptoBulk d) (fun n cs x hx => open_op hx) h
  have get : ∀ j o, ((List.range n).map fun i => (F i).1)[j]? = some o → j < n ∧ (F j).1 = o := fun j o ho => by
    have hj : j < n := by
      have := (List.getElem?_eq_some_iff.1 ho).1
      simpa using this
    rw [List.getElem?_map, List.getElem?_range hj] at ho
    exact ⟨hj, Option.some.inj ho⟩
  refine ⟨A, c, (List.range n).map fun i => (F i).1, fun i => (F i).2.1, fun i => (F i).2.2, by simp, ⟨fun h0 => ?_, fun j o ho => ?_⟩, by simpa using hn, fun o ho => ?_⟩
  · obtain ⟨ad, e, hb, hc⟩ := hr (by simpa using h0)
    refine ⟨ad, e, hb, fun j o ho r u hu => ?_⟩
    obtain ⟨hj, rfl⟩ := get j o ho
    obtain ⟨cs, ⟨rfl, -⟩, hcell⟩ := hc j hj
    exact hcell r u hu
  · obtain ⟨hj, rfl⟩ := get j o ho
    obtain ⟨ad, e, hb, hc⟩ := hr (by omega)
    obtain ⟨cs, ⟨-, h2, -⟩, -⟩ := hc j hj
    exact h2
  · obtain ⟨j, hj, rfl⟩ := List.mem_map.1 ho
    have hj := List.mem_range.1 hj
    obtain ⟨ad, e, hb, hc⟩ := hr (by omega)
    obtain ⟨cs, ⟨-, -, h3, h4⟩, -⟩ := hc j hj
    have := hd j hj
    exact ⟨by omega, by omega⟩
/-- where a block's parts stand -/
abbrev BLay := Option Addr × Nat × (Nat → Option Addr) × (Nat → Nat)
def BlFit (N : Nat) (b : Bl) : Prop := b.ops.length ≤ N ∧ ∀ o ∈ b.ops, o.text.size ≤ N ∧ o.args.length ≤ N
theorem open_bl {cs : List Value} {x : DataW H × List MemPlace} (h : DataW.trod enc Tryz.prog W base (fun _ => true) true fuel 52 cs = some x) :
    ∃ y : Bl × BLay, cs = blCells y.1 y.2.1 y.2.2.1 ∧ OpsAt W W.heap.size y.2.1 y.1.ops y.2.2.2.1 y.2.2.2.2 ∧ BlFit (Rows.uptoBulk x.1) y.1 := by
  obtain ⟨y0, y1, n, rfl, hlen, h0, h1⟩ := trod_struct2 Tryz.underlying52 h
  rw [c52] at hlen
  obtain ⟨v0, t0, rfl, l0⟩ := list_step hlen
  obtain ⟨v1, t1, rfl, l1⟩ := list_step l0
  obtain ⟨v2, t2, rfl, l2⟩ := list_step l1
  obtain ⟨v3, t3, rfl, l3⟩ := list_step l2
  obtain ⟨v4, t4, rfl, l4⟩ := list_step l3
  obtain ⟨v5, t5, rfl, l5⟩ := list_step l4
  obtain rfl := List.eq_nil_of_length_eq_zero l5
  simp [c48, c50] at h0 h1
  obtain ⟨A, c, l, AA, ac, rfl, ho, hn, hf⟩ := open_ops h0
  obtain ⟨xs, m, _, rfl, hlen, hxl, hg⟩ := DataW.trod_struct Tryz.underlying50 h1
  have hl : xs.length = 5 := hxl
  have g0 := hg 0 _ rfl
  have g1 := hg 1 _ rfl
  have g2 := hg 2 _ rfl
  have g3 := hg 3 _ rfl
  have g4 := hg 4 _ rfl
  rw [List.getElem?_eq_getElem (by omega)] at g0 g1 g2 g3 g4
  simp [c3] at g0 g1 g2 g3 g4
  obtain ⟨a0, e0, _, w0⟩ := DataW.trod_int Tryz.underlying3 g0
  obtain ⟨a1, e1, _, w1⟩ := DataW.trod_int Tryz.underlying3 g1
  obtain ⟨a2, e2, _, w2⟩ := DataW.trod_int Tryz.underlying3 g2
  obtain ⟨a3, e3, _, w3⟩ := DataW.trod_int Tryz.underlying3 g3
  obtain ⟨a4, e4, _, w4⟩ := DataW.trod_int Tryz.underlying3 g4
  simp at e0 e1 e2 e3 e4
  subst e0 e1 e2 e3 e4
  refine ⟨(⟨l, ⟨a0, a1, a2, a3, a4⟩⟩, A, c, AA, ac), rfl, ho, ?_, fun o hom => ?_⟩
  · show l.length ≤ _
    simp only [Rows.uptoBulk, Rows.uptoBulkAll]
    omega
  · have := hf o hom
    simp only [Rows.uptoBulk, Rows.uptoBulkAll]
    exact ⟨by omega, by omega⟩
theorem open_slot {cs : List Value} {x : DataW H × List MemPlace} (h : DataW.trod enc Tryz.prog W base (fun _ => true) true fuel 127 cs = some x) : ∃ y : Slot, cs = slotCells y := by
  obtain ⟨xs, n, _, rfl, hlen, hxl, hf⟩ := DataW.trod_struct Tryz.underlying127 h
  have hl : xs.length = 3 := hxl
  rw [c127] at hlen
  have g0 := hf 0 _ rfl
  have g1 := hf 1 _ rfl
  have g2 := hf 2 _ rfl
  rw [List.getElem?_eq_getElem (by omega)] at g0 g1 g2
  obtain ⟨v0, t0, rfl, l0⟩ := list_step hlen
  obtain ⟨v1, t1, rfl, l1⟩ := list_step l0
  obtain ⟨v2, t2, rfl, l2⟩ := list_step l1
  obtain rfl := List.eq_nil_of_length_eq_zero l2
  simp [c3, c4] at g0 g1 g2
  obtain ⟨a0, e0, _, w0⟩ := DataW.trod_int Tryz.underlying3 g0
  obtain ⟨a1, e1, _, w1⟩ := DataW.trod_int Tryz.underlying3 g1
  obtain ⟨b, e2, _⟩ := DataW.trod_bool Tryz.underlying4 g2
  simp at e0 e1 e2
  subst e0 e1 e2
  exact ⟨⟨a0, a1, b⟩, rfl⟩
set_option maxRecDepth 20000 in
/-- a function -/
theorem open_fn {v : Value} {x : DataW H × List MemPlace} {b0 : Nat} (hv : Value.okWide Tryz.prog W .any b0 25 v) (h : DataW.trod enc Tryz.prog W base (fun _ => true) true fuel 25 v.cells.toList = some x) :
    ∃ (f : Fn) (L : FLay), v = fnV f L ∧ FnAt W W.heap.size f L ∧ f.name.size ≤ Rows.uptoBulk x.1 ∧ ∀ b ∈ f.bl, BlFit (Rows.uptoBulk x.1) b := by
  obtain ⟨cs, rfl, hsz⟩ := okWide_struct Tryz.underlying25 hv
  rw [c25] at hsz
  obtain ⟨u0, u1, u2, u3, u4, rfl⟩ : ∃ u0 u1 u2 u3 u4, cs = #[u0, u1, u2, u3, u4] := by
    obtain ⟨l⟩ := cs
    have hl : l.length = 5 := hsz
    obtain ⟨v0, t0, rfl, l0⟩ := list_step hl
    obtain ⟨v1, t1, rfl, l1⟩ := list_step l0
    obtain ⟨v2, t2, rfl, l2⟩ := list_step l1
    obtain ⟨v3, t3, rfl, l3⟩ := list_step l2
    obtain ⟨v4, t4, rfl, l4⟩ := list_step l3
    obtain rfl := List.eq_nil_of_length_eq_zero l4
    exact ⟨v0, v1, v2, v3, v4, rfl⟩
  have hcl : (Value.agg #[u0, u1, u2, u3, u4]).cells.toList = [u0, u1, u2, u3, u4] := by simp [Value.cells]
  rw [hcl] at h
  obtain ⟨xs, n, _, rfl, hlen, hxl, hf⟩ := DataW.trod_struct Tryz.underlying25 h
  have hl : xs.length = 5 := hxl
  have g0 := hf 0 _ rfl
  have g1 := hf 1 _ rfl
  have g2 := hf 2 _ rfl
  have g3 := hf 3 _ rfl
  have g4 := hf 4 _ rfl
  rw [List.getElem?_eq_getElem (by omega)] at g0 g1 g2 g3 g4
  simp [c3, c9, c22, c23] at g0 g1 g2 g3 g4
  obtain ⟨s, e0, d0, hs⟩ := DataW.trod_string Tryz.underlying9 g0
  obtain ⟨a1, e1, _, w1⟩ := DataW.trod_int Tryz.underlying3 g1
  obtain ⟨a2, e2, _, w2⟩ := DataW.trod_int Tryz.underlying3 g2
  simp at e0 e1 e2
  subst e0 e1 e2
  obtain ⟨SA, sn, sc, SF, SD, rfl, -, -, hsr, -, -⟩ := open_rows (α := Slot) Tryz.underlying22 c127 (by decide) (fun y cs _ => cs = slotCells y) (fun n cs x hx => open_slot hx) g3
  obtain ⟨BA, bn, bc, BF, BD, rfl, -, -, hbr, hbd, hbn⟩ := open_rows (α := Bl × BLay) Tryz.underlying23 c52 (by decide) (fun y cs d => cs = blCells y.1 y.2.1 y.2.2.1 ∧ OpsAt W W.heap.size y.2.1 y.1.ops y.2.2.2.1 y.2.2.2.2 ∧ BlFit (Rows.uptoBulk d) y.1) (fun n cs x hx => open_bl hx) g4
  have m0 : (xs[0]'(by omega)).1 ∈ xs.map (·.1) := List.mem_map.2 ⟨_, List.getElem_mem _, rfl⟩
  have m4 : (xs[4]'(by omega)).1 ∈ xs.map (·.1) := List.mem_map.2 ⟨_, List.getElem_mem _, rfl⟩
  have b0 := bulk_part m0
  have b4 := bulk_part m4
  rw [d0] at b0
  have es : s.data.toList.length = s.size := by rw [Array.length_toList]; rfl
  simp only [Rows.uptoBulk] at b0
  have get : ∀ j o, ((List.range bn).map fun i => (BF i).1)[j]? = some o → j < bn ∧ (BF j).1 = o := fun j o ho => by
    have hj : j < bn := by
      have := (List.getElem?_eq_some_iff.1 ho).1
      simpa using this
    rw [List.getElem?_map, List.getElem?_range hj] at ho
    exact ⟨hj, Option.some.inj ho⟩
  refine ⟨⟨s, a1, a2, (List.range sn).map SF, (List.range bn).map fun i => (BF i).1⟩, ⟨SA, sc, BA, bc, fun i => (BF i).2.1, fun i => (BF i).2.2.1, fun i => (BF i).2.2.2.1, fun i => (BF i).2.2.2.2⟩, by simp [fnV], ⟨fun h0 => ?_, ⟨fun h0 => ?_, fun j y hy => ?_⟩⟩, ?_, fun b hb => ?_⟩
  · obtain ⟨ad, e, hb, hc⟩ := hsr (by simpa using h0)
    refine ⟨ad, e, hb, fun j y hy r u hu => ?_⟩
    have hj : j < sn := by
      have := (List.getElem?_eq_some_iff.1 hy).1
      simpa using this
    have hy2 : ((List.range sn).map SF)[j]? = some y := hy
    rw [List.getElem?_map, List.getElem?_range hj] at hy2
    have hy3 : SF j = y := Option.some.inj hy2
    obtain ⟨cs, rfl, hcell⟩ := hc j hj
    rw [hy3] at hcell
    exact hcell r u hu
  · obtain ⟨ad, e, hb, hc⟩ := hbr (by simpa using h0)
    refine ⟨ad, e, hb, fun j y hy r u hu => ?_⟩
    obtain ⟨hj, rfl⟩ := get j y hy
    obtain ⟨cs, ⟨rfl, -⟩, hcell⟩ := hc j hj
    exact hcell r u hu
  · obtain ⟨hj, rfl⟩ := get j y hy
    obtain ⟨ad, e, hb, hc⟩ := hbr (by omega)
    obtain ⟨cs, ⟨-, h2, -⟩, -⟩ := hc j hj
    exact h2
  · show s.size ≤ _
    simp only [Rows.uptoBulk]
    omega
  · have hb2 : b ∈ (List.range bn).map fun i => (BF i).1 := hb
    obtain ⟨j, hj, rfl⟩ := List.mem_map.1 hb2
    have hj := List.mem_range.1 hj
    obtain ⟨ad, e, -, hc⟩ := hbr (by omega)
    obtain ⟨cs, ⟨-, -, h3⟩, -⟩ := hc j hj
    have := hbd j hj
    unfold BlFit at h3 ⊢
    simp only [Rows.uptoBulk]
    refine ⟨by have := h3.1; omega, fun o ho => ?_⟩
    have := h3.2 o ho
    exact ⟨by omega, by omega⟩
end
end Go.Proofs.YthgbmhpfblgjcaaGreatDoor.fl
