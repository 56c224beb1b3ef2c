/-
  The builtin clear over a row of bytes of a store. No condition beyond the row's bounds.
-/
import Derived.Test.YtejhphnlickjlaaDoorMem
import Derived.Test.YtejhphnlickjlaaDoorProg
import Derived.Maps.Own
import Derived.Maps.OwnOps
import Derived.Laws.CopyRow
import Derived.WalkKit
set_option linter.unusedVariables false
set_option linter.unusedSimpArgs false
namespace Go.Proofs.YtejhphnlickjlaaDoor.bl
open Go.RowKit
open M
set_option linter.unusedVariables false
theorem belowN {B : Nat} {a w : World} (h : Below B a w) (n : Nat) : Below B a (w.drewN n) := ⟨h.os, h.tape, h.output, h.size, h.block⟩
/-- a byte of a block: its kind, its number, its context, its value -/
structure By where
  (k n c a i o : Int)
def By.cells (b : By) : List Value := [.int .i64 b.k, .int .i64 b.n, .int .i64 b.c, .int .i64 b.a, .int .i64 b.i, .int .i64 b.o]
def bys (l : List By) : List Value := l.flatMap By.cells
/-- a block -/
structure Bk where
  (kind : Int) (dead : Bool) (bs : List By)
/-- a store -/
structure St where
  (bl : List Bk) (live sum : Int)
/-- where the store's parts stand: the row of pointers, the map, bodies, bytes -/
structure Lay where
  (A : Option Addr) (c gm : Nat) (pb py : Nat → Nat)
def ptrs (pb : Nat → Nat) (n : Nat) : List Value := (List.range n).map fun j => .pointer (some ⟨pb j, 0, none⟩)
theorem bys_length (l : List By) : (bys l).length = 6 * l.length := by
  induction l with
  | nil => rfl
  | cons b r ih => simp only [bys, List.flatMap_cons, List.length_append, List.length_cons] at ih ⊢; rw [ih]; simp [By.cells]; omega
theorem ptrs_length (pb : Nat → Nat) (n : Nat) : (ptrs pb n).length = n := by simp [ptrs]
theorem ptrs_get (pb : Nat → Nat) (n j : Nat) (h : j < n) : (ptrs pb n)[j]? = some (.pointer (some ⟨pb j, 0, none⟩)) := by simp [ptrs, List.getElem?_range h]
theorem bys_get : ∀ (l : List By) (j r : Nat) (b : By), l[j]? = some b → r < 6 → (bys l)[6 * j + r]? = b.cells[r]?
  | [], j, r, b, h, _ => by simp at h
  | x :: l, 0, r, b, h, hr => by
    obtain rfl : x = b := by simpa using h
    simp only [bys, List.flatMap_cons]
    rw [List.getElem?_append_left (by simp [By.cells]; omega)]
    congr 1; omega
  | x :: l, j + 1, r, b, h, hr => by
    have h' : l[j]? = some b := by simpa using h
    have := bys_get l j r b h' hr
    simp only [bys, List.flatMap_cons] at this ⊢
    rw [List.getElem?_append_right (by simp [By.cells]; omega)]
    rw [← this]
    congr 1
    simp [By.cells]; omega
/-- the body's own cells -/
def Bk.cells (b : Bk) (y : Nat) : Array Value := #[.int .i64 b.kind, .bool b.dead, .slice (some ⟨y, 0, none⟩) b.bs.length b.bs.length]
/-- the store st stands in w behind the pointer to block g; all of it from block B on; its map holds at most N entries -/
structure Sto (w : World) (B g N : Nat) (st : St) (L : Lay) : Prop where
  Bg : B ≤ g
  top : w.heap[g]? = some (.cells #[.slice L.A st.bl.length L.c, .int .i64 st.live, .int .i64 st.sum, .map (some L.gm)] 106 (0, 0))
  row : w.ownsRow B 92 1 (.slice L.A st.bl.length L.c) st.bl.length (ptrs L.pb st.bl.length)
  Bm : B ≤ L.gm
  map : ∃ (D : DataW Unit), w.ownsMap Tryd.prog 3 (plainElem Tryd.prog 3) L.gm N D
  body : ∀ j b, st.bl[j]? = some b → B ≤ L.pb j ∧ B ≤ L.py j ∧ w.heap[L.pb j]? = some (.cells (b.cells (L.py j)) 102 (0, 0)) ∧ w.heap[L.py j]? = some (.cells (bys b.bs).toArray 54 (0, 0)) ∧ b.bs.length ≤ 131072
  injp : ∀ i j, i < st.bl.length → j < st.bl.length → L.pb i = L.pb j → i = j
  injy : ∀ i j, i < st.bl.length → j < st.bl.length → L.py i = L.py j → i = j
section
variable {w w' : World} {B g N : Nat} {st : St} {L : Lay}
theorem Sto.lt (h : Sto w B g N st L) : g < w.heap.size := (Array.getElem?_eq_some_iff.1 h.top).1
theorem Sto.kept (h : Sto w B g N st L) (hk : ∀ q, q < w.heap.size → w'.heap[q]? = w.heap[q]?) : Sto w' B g N st L := by
  have l : ∀ {q x}, w.heap[q]? = some x → w'.heap[q]? = some x := fun {q x} hq => (hk q (Array.getElem?_eq_some_iff.1 hq).1).trans hq
  refine ⟨h.Bg, l h.top, ?_, h.Bm, ?_, fun j b hb => ?_, h.injp, h.injy⟩
  · refine ⟨h.row.1, ?_⟩
    rcases h.row.2 with h0 | ⟨g', cap, cur, hv, hg, hh, r⟩
    · exact .inl h0
    · exact .inr ⟨g', cap, cur, hv, hg, l hh, r⟩
  · obtain ⟨D, es, clock, hb, r⟩ := h.map
    exact ⟨D, es, clock, l hb, r⟩
  · obtain ⟨h1, h2, h3, h4, h5⟩ := h.body j b hb
    exact ⟨h1, h2, l h3, l h4, h5⟩
theorem Sto.below (h : Sto w B g N st L) (hb : Below w.heap.size w w') : Sto w' B g N st L := h.kept fun q hq => hb.block q hq
theorem Sto.alloc (h : Sto w B g N st L) (o : Obj) : Sto (w.alloc o) B g N st L := h.below ((Below.refl _ _).alloc (Nat.le_refl _) _)
theorem Sto.drew (h : Sto w B g N st L) : Sto w.drew B g N st L := h.kept fun _ _ => rfl
theorem Sto.more (h : Sto w B g N st L) {N' : Nat} (hN : N ≤ N') : Sto w B g N' st L :=
  ⟨h.Bg, h.top, h.row, h.Bm, by obtain ⟨D, hD⟩ := h.map; exact ⟨D, hD.mono hN⟩, h.body, h.injp, h.injy⟩
/-- the block of bytes of number j is written, nothing else -/
theorem Sto.setBytes (h : Sto w B g N st L) {j : Nat} {b : Bk} (hj : st.bl[j]? = some b) {bs' : List By} (hlen : bs'.length = b.bs.length)
    (hy : w'.heap[L.py j]? = some (.cells (bys bs').toArray 54 (0, 0))) (hk : ∀ q, q < w.heap.size → q ≠ L.py j → w'.heap[q]? = w.heap[q]?) :
    Sto w' B g N { st with bl := st.bl.set j { b with bs := bs' } } L := by
  obtain ⟨b1, b2, b3, b4, b5⟩ := h.body j b hj
  have l : ∀ {q : Nat} {x : Obj}, w.heap[q]? = some x → (∀ cs, x ≠ Obj.cells cs 54 (0, 0)) → w'.heap[q]? = some x := fun {q x} hq hx =>
    (hk q (Array.getElem?_eq_some_iff.1 hq).1 (fun e => by subst e; rw [b4] at hq; exact hx _ (Option.some.inj hq).symm)).trans hq
  have hlen' : (st.bl.set j { b with bs := bs' }).length = st.bl.length := by simp
  have hjl : j < st.bl.length := (List.getElem?_eq_some_iff.1 hj).1
  refine ⟨h.Bg, ?_, ?_, h.Bm, ?_, fun i x hx => ?_, ?_, ?_⟩
  · simp only [hlen']; exact l h.top (by intro cs e; cases e)
  · simp only [hlen']
    refine ⟨h.row.1, ?_⟩
    rcases h.row.2 with h0 | ⟨g', cap, cur, hv, hg, hh, r⟩
    · exact .inl h0
    · exact .inr ⟨g', cap, cur, hv, hg, l hh (by intro cs e; cases e), r⟩
  · obtain ⟨D, es, clock, hb, r⟩ := h.map
    exact ⟨D, es, clock, l hb (by intro cs e; cases e), r⟩
  · by_cases hij : i = j
    · subst hij
      rw [List.getElem?_set_self hjl] at hx
      obtain rfl := (Option.some.inj hx).symm
      refine ⟨b1, b2, ?_, hy, by simp only; omega⟩
      have := l b3 (by intro cs e; cases e)
      simpa [Bk.cells, hlen] using this
    · rw [List.getElem?_set_ne (fun e => hij e.symm)] at hx
      obtain ⟨c1, c2, c3, c4, c5⟩ := h.body i x hx
      have hil : i < st.bl.length := (List.getElem?_eq_some_iff.1 hx).1
      exact ⟨c1, c2, l c3 (by intro cs e; cases e), (hk _ (Array.getElem?_eq_some_iff.1 c4).1 (fun e => hij (h.injy i j hil hjl e))).trans c4, c5⟩
  · simp only [hlen']; exact h.injp
  · simp only [hlen']; exact h.injy
/-- the map is written, nothing else -/
theorem Sto.setMap (h : Sto w B g N st L) {D : DataW Unit} (hm : w'.ownsMap Tryd.prog 3 (plainElem Tryd.prog 3) L.gm (N + 1) D) (hg : w.grownBy w' (some L.gm)) : Sto w' B g (N + 1) st L := by
  have l : ∀ {q : Nat} {cs : Array Value} {t : TypeId}, w.heap[q]? = some (Obj.cells cs t (0, 0)) → w'.heap[q]? = some (Obj.cells cs t (0, 0)) := fun {q cs t} hq => by
    refine (hg.block q (Array.getElem?_eq_some_iff.1 hq).1 (fun e => ?_)).trans hq
    have e' : q = L.gm := Option.some.inj e
    subst e'
    obtain ⟨D', es, clock, hb, _⟩ := h.map
    rw [hb] at hq
    cases hq
  refine ⟨h.Bg, l h.top, ?_, h.Bm, ⟨D, hm⟩, fun j b hb => ?_, h.injp, h.injy⟩
  · refine ⟨h.row.1, ?_⟩
    rcases h.row.2 with h0 | ⟨g', cap, cur, hv, hg', hh, r⟩
    · exact .inl h0
    · exact .inr ⟨g', cap, cur, hv, hg', l hh, r⟩
  · obtain ⟨h1, h2, h3, h4, h5⟩ := h.body j b hb
    exact ⟨h1, h2, l h3, l h4, h5⟩
end
end Go.Proofs.YtejhphnlickjlaaDoor.bl
namespace Go.Proofs.YtejhphnlickjlaaDoor.bl
open Go.RowKit
open M
set_option linter.unusedVariables false
def By.zero : By := ⟨0, 0, 0, 0, 0, 0⟩
theorem zero54 (w : World) : (zeroValue 54).run Tryd.prog w = .ok (.agg #[.int .i64 0, .int .i64 0, .int .i64 0, .int .i64 0, .int .i64 0, .int .i64 0]) w := by kernel_rfl
theorem bys_zero : ∀ n : Nat, bys (List.replicate n By.zero) = List.replicate (6 * n) (.int .i64 0)
  | 0 => rfl
  | n + 1 => by
    have := bys_zero n
    simp only [bys, List.replicate_succ, List.flatMap_cons] at this ⊢
    rw [this, show 6 * (n + 1) = 6 * n + 1 + 1 + 1 + 1 + 1 + 1 by omega]
    simp only [List.replicate_succ]
    rfl
theorem zeroCells_six (n : Nat) : (Builtin.zeroCells #[.int .i64 0, .int .i64 0, .int .i64 0, .int .i64 0, .int .i64 0, .int .i64 0] n).toList = bys (List.replicate n By.zero) := by
  rw [bys_zero, List.eq_replicate_iff]
  refine ⟨by simp [Builtin.zeroCells]; omega, fun v hv => ?_⟩
  simp only [Builtin.zeroCells, Array.toList_map, List.mem_map] at hv
  obtain ⟨i, _, rfl⟩ := hv
  have h6 : i % 6 < 6 := Nat.mod_lt _ (by omega)
  show (#[Value.int .i64 0, .int .i64 0, .int .i64 0, .int .i64 0, .int .i64 0, .int .i64 0] : Array Value)[i % 6]! = _
  generalize i % 6 = r at *
  match r, h6 with
  | 0, _ => rfl
  | 1, _ => rfl
  | 2, _ => rfl
  | 3, _ => rfl
  | 4, _ => rfl
  | 5, _ => rfl
theorem bys_one (l : List By) : ∀ v ∈ bys l, v.oneCell' = true := by
  intro v hv
  obtain ⟨b, _, hb⟩ := List.mem_flatMap.1 hv
  simp only [By.cells, List.mem_cons, List.not_mem_nil, or_false] at hb
  rcases hb with rfl | rfl | rfl | rfl | rfl | rfl <;> rfl
theorem run_clear (w : World) (y o n c : Nat) (cur : Array Value) (ty : TypeId) (hg : w.heap[y]? = some (.cells cur 54 (0, 0))) (hfit : o + 6 * n ≤ cur.size) (hn : n ≠ 0) :
    (Builtin.clear_ #[52] ty #[.slice (some ⟨y, o, none⟩) n c]).run Tryd.prog w = .ok (.tuple #[]) (w.setRow y (cur.toList.take o ++ bys (List.replicate n By.zero) ++ cur.toList.drop (o + 6 * n)).toArray) := by
  have hst := run_storeCells_at (P := Tryd.prog) y o 54 (bys (List.replicate n By.zero)) 0 cur w hg (by rw [bys_length, List.length_replicate]; omega) (bys_one _)
  rw [bys_length, List.length_replicate, Nat.add_zero] at hst
  unfold Builtin.clear_
  cases n with
  | zero => exact absurd rfl hn
  | succ n =>
    simp [run_underlying Tryd.underlying52, zero54, Value.cells, zeroCells_six, hst]
theorem bys_append (a b : List By) : bys (a ++ b) = bys a ++ bys b := by simp [bys]
theorem bys_take : ∀ (l : List By) (q : Nat), (bys l).take (6 * q) = bys (l.take q)
  | [], q => by simp [bys]
  | x :: l, 0 => by simp [bys]
  | x :: l, q + 1 => by
    have := bys_take l q
    simp only [bys, List.take_succ_cons, List.flatMap_cons] at this ⊢
    rw [← this, List.take_append, show x.cells.length = 6 from rfl, show 6 * (q + 1) - 6 = 6 * q by omega, List.take_of_length_le (by rw [show x.cells.length = 6 from rfl]; omega)]
theorem bys_drop : ∀ (l : List By) (q : Nat), (bys l).drop (6 * q) = bys (l.drop q)
  | [], q => by simp [bys]
  | x :: l, 0 => by simp [bys]
  | x :: l, q + 1 => by
    have := bys_drop l q
    simp only [bys, List.drop_succ_cons, List.flatMap_cons] at this ⊢
    rw [← this, List.drop_append, show x.cells.length = 6 from rfl, show 6 * (q + 1) - 6 = 6 * q by omega, List.drop_of_length_le (by rw [show x.cells.length = 6 from rfl]; omega), List.nil_append]
theorem info54 : (Tryd.prog.info? 54).map (·.size) = some 6 := by kernel_rfl
/-- copy of whole bytes from one row to another, or within one -/
theorem run_copy6 (w : World) (ty : TypeId) (g o dCap : Nat) (a : Addr) (sCap : Nat) (cur : Array Value) (cs : List By)
    (hg : w.heap[g]? = some (.cells cur 54 (0, 0))) (hsrc : ∀ j v, (bys cs)[j]? = some v → w.cell? (a.add j) = some v) (hfit : o + 6 * cs.length ≤ cur.size) :
    (Builtin.copy_ #[52, 52] ty #[.slice (some ⟨g, o, none⟩) cs.length dCap, .slice (some a) cs.length sCap]).run Tryd.prog w =
      .ok (goInt cs.length) (w.setRow g (cur.toList.take o ++ bys cs ++ cur.toList.drop (o + 6 * cs.length)).toArray) := by
  have hl := run_loadCells_list (P := Tryd.prog) w a (bys cs) hsrc
  have hst := run_storeCells_at Tryd.prog g o 54 (bys cs) 0 cur w hg (by rw [bys_length]; omega) (bys_one _)
  rw [bys_length] at hl hst
  have h6 := info54
  cases hq : Tryd.prog.info? 54 with
  | none => simp [hq] at h6
  | some i =>
    have hi : i.size = 6 := by simpa [hq] using h6
    simp [Builtin.copy_, run_underlying Tryd.underlying52, Builtin.lenOf, Builtin.firstCells, sizeOf, typeInfo, hq, hi, Nat.mul_comm cs.length 6, hl, hst]
/-- some bytes of the block of number j are written over by z -/
theorem Sto.splice {w : World} {B g N : Nat} {st : St} {L : Lay} (h : Sto w B g N st L) {j : Nat} {b : Bk} (hj : st.bl[j]? = some b) (q : Nat) (z : List By) (hq : q + z.length ≤ b.bs.length) :
    Sto (w.setRow (L.py j) ((bys b.bs).take (6 * q) ++ bys z ++ (bys b.bs).drop (6 * (q + z.length))).toArray) B g N { st with bl := st.bl.set j { b with bs := b.bs.take q ++ z ++ b.bs.drop (q + z.length) } } L := by
  obtain ⟨_, _, _, b4, _⟩ := h.body j b hj
  refine h.setBytes hj (by simp; omega) ?_ (fun p _ hp => setRow_other w (L.py j) p _ hp)
  rw [bys_take, bys_drop, ← bys_append, ← bys_append]
  exact setRow_heap w (L.py j) _ _ 54 _ b4
end Go.Proofs.YtejhphnlickjlaaDoor.bl
