/-
  Bytes read; contracts of slices.IndexFunc and slices.ContainsFunc over bytes with the closures of Load and Context. No condition but the bytes as they stand in memory.
-/
import Derived.Test.YtejhphnlickjlaaDoorBlN
import Derived.LoopTactic
import Derived.LoopN
set_option linter.unusedVariables false
set_option linter.unusedSimpArgs false
namespace Go.Proofs.YtejhphnlickjlaaDoor.bl
open Go.RowKit Go.Maps
open M ty
set_option linter.unusedVariables false
theorem set6_list : ∀ (l : List By) (q : Nat) (x : By), q < l.length →
    (((((((bys l).set (6 * q) (.int .i64 x.k)).set (6 * q + 1) (.int .i64 x.n)).set (6 * q + 2) (.int .i64 x.c)).set (6 * q + 3) (.int .i64 x.a)).set (6 * q + 4) (.int .i64 x.i)).set (6 * q + 5) (.int .i64 x.o)) = bys (putB l q [x])
  | [], q, x, h => by simp at h
  | b :: l, 0, x, h => by simp [bys, putB, By.cells]
  | b :: l, q + 1, x, h => by
    have := set6_list l q x (by simpa using h)
    simp only [bys, putB, List.take_succ_cons, List.cons_append, List.flatMap_cons, By.cells, List.length_singleton, List.nil_append] at this ⊢
    rw [show 6 * (q + 1) = 6 * q + 1 + 1 + 1 + 1 + 1 + 1 by omega, show 6 * q + 1 + 1 + 1 + 1 + 1 + 1 + 1 = (6 * q + 1) + 1 + 1 + 1 + 1 + 1 + 1 by omega, show 6 * q + 1 + 1 + 1 + 1 + 1 + 1 + 2 = (6 * q + 2) + 1 + 1 + 1 + 1 + 1 + 1 by omega,
      show 6 * q + 1 + 1 + 1 + 1 + 1 + 1 + 3 = (6 * q + 3) + 1 + 1 + 1 + 1 + 1 + 1 by omega, show 6 * q + 1 + 1 + 1 + 1 + 1 + 1 + 4 = (6 * q + 4) + 1 + 1 + 1 + 1 + 1 + 1 by omega, show 6 * q + 1 + 1 + 1 + 1 + 1 + 1 + 5 = (6 * q + 5) + 1 + 1 + 1 + 1 + 1 + 1 by omega]
    simp only [List.set_cons_succ]
    rw [this]
    rw [show q + 1 + 1 = (q + 1) + 1 by omega, List.drop_succ_cons]
/-- a byte of the block y written at place p -/
abbrev set6 (W : World) (y p : Nat) (x : By) : World :=
  (((((W.setCell ⟨y, p, none⟩ (.int .i64 x.k)).setCell ⟨y, p + 1, none⟩ (.int .i64 x.n)).setCell ⟨y, p + 2, none⟩ (.int .i64 x.c)).setCell ⟨y, p + 3, none⟩ (.int .i64 x.a)).setCell ⟨y, p + 4, none⟩ (.int .i64 x.i)).setCell ⟨y, p + 5, none⟩ (.int .i64 x.o)
theorem set6_heap {W : World} {y p q : Nat} {l : List By} (h : W.heap[y]? = some (.cells (bys l).toArray 54 (0, 0))) (hp : p = 6 * q) (hq : q < l.length) (x : By) : (set6 W y p x).heap[y]? = some (.cells (bys (putB l q [x])).toArray 54 (0, 0)) := by
  subst hp
  rw [heap_set (heap_set (heap_set (heap_set (heap_set (heap_set h _) _) _) _) _) _]
  simp only [List.setIfInBounds_toArray]
  rw [set6_list l q x hq]
theorem set6_other {W : World} {y p r : Nat} (x : By) (h : r ≠ y) : (set6 W y p x).heap[r]? = W.heap[r]? := by
  simp only [set6, heap_set_other _ h]
section
variable {w W W' : World} {B g N : Nat} {st : St} {L : Lay} {k i o : Int}
theorem Wk.set6 (h : Wk w W B g N st L k i o) {j : Nat} {b : Bk} (hj : st.bl[j]? = some b) {p q : Nat} (hp : p = 6 * q) (hq : q < b.bs.length) (x : By) : Wk w (set6 W (L.py j) p x) B g N (st.put j q [x]) L k i o := by
  have hb := h.sto.body j b hj
  have h1 := h.py j b hj
  have hh := set6_heap hb.2.2.2.1 hp hq x
  refine ⟨?_, by rw [put_length]; exact (((((h.fr.setCell (h.sto.mine_py hj) _).setCell (h.sto.mine_py hj) _).setCell (h.sto.mine_py hj) _).setCell (h.sto.mine_py hj) _).setCell (h.sto.mine_py hj) _).setCell (h.sto.mine_py hj) _, h.Bw, (set6_other x (by omega)).trans h.v, fun j' b' hb' => ?_, h.lm⟩
  · rw [put_set q [x] hj]
    exact h.sto.setBytes hj (putB_length (by simp; omega)) hh fun r _ hr => set6_other x hr
  · by_cases hjj : j' = j
    · rw [hjj]; exact h1
    · rw [put_other q [x] hjj] at hb'; exact h.py j' b' hb'
/-- one round of a loop that writes z over a block's bytes from q on -/
theorem Wk.step {j : Nat} {b : Bk} (hj : st.bl[j]? = some b) {q m p : Nat} {z : List By} (h : Wk w W B g N (st.put j q (z.take m)) L k i o) (hp : p = 6 * (q + m)) (hq : q + z.length ≤ b.bs.length) {x : By} (hx : z[m]? = some x) :
    Wk w (bl.set6 W (L.py j) p x) B g N (st.put j q (z.take (m + 1))) L k i o := by
  have hm := (List.getElem?_eq_some_iff.1 hx).1
  have := h.set6 (put_self q (z.take m) hj) hp (by simp only; rw [putB_length (by simp; omega)]; omega) x
  rwa [put_succ hj hx hq] at this
theorem put_look {j : Nat} {b : Bk} (hj : st.bl[j]? = some b) (q : Nat) (z : List By) : (st.put j q z).bl[j]? = some { b with bs := putB b.bs q z } := put_self q z hj
/-- the six cells of a byte of a block can be written -/
theorem Wk.six (h : Wk w W B g N st L k i o) {j : Nat} {b : Bk} (hj : st.bl[j]? = some b) {p q : Nat} (hp : p = 6 * q) (hq : q < b.bs.length) :
    ∃ u0 u1 u2 u3 u4 u5, W.cell? ⟨L.py j, p, none⟩ = some u0 ∧ W.cell? ⟨L.py j, p + 1, none⟩ = some u1 ∧ W.cell? ⟨L.py j, p + 2, none⟩ = some u2 ∧ W.cell? ⟨L.py j, p + 3, none⟩ = some u3 ∧ W.cell? ⟨L.py j, p + 4, none⟩ = some u4 ∧ W.cell? ⟨L.py j, p + 5, none⟩ = some u5 ∧
      W.frozen? ⟨L.py j, p, none⟩ = false ∧ W.frozen? ⟨L.py j, p + 1, none⟩ = false ∧ W.frozen? ⟨L.py j, p + 2, none⟩ = false ∧ W.frozen? ⟨L.py j, p + 3, none⟩ = false ∧ W.frozen? ⟨L.py j, p + 4, none⟩ = false ∧ W.frozen? ⟨L.py j, p + 5, none⟩ = false := by
  subst hp
  have hx : b.bs[q]? = some b.bs[q] := List.getElem?_eq_getElem hq
  have hh := (h.sto.body j b hj).2.2.2.1
  exact ⟨_, _, _, _, _, _, h.sto.rowBlock hj hx (r := 0) (by omega), h.sto.rowBlock hj hx (r := 1) (by omega), h.sto.rowBlock hj hx (r := 2) (by omega), h.sto.rowBlock hj hx (r := 3) (by omega), h.sto.rowBlock hj hx (r := 4) (by omega), h.sto.rowBlock hj hx (r := 5) (by omega),
    Go.Joins.unfrozen_of_block hh _, Go.Joins.unfrozen_of_block hh _, Go.Joins.unfrozen_of_block hh _, Go.Joins.unfrozen_of_block hh _, Go.Joins.unfrozen_of_block hh _, Go.Joins.unfrozen_of_block hh _⟩
/-- a pointer's variable at the place where w ends; all below is as it was -/
structure Env1 (w W : World) (k i o : Int) : Prop where
  below : Below w.heap.size w W
  v : W.heap[w.heap.size]? = some (.cells #[.int .i64 k, .int .i64 i, .int .i64 o] 24 (0, 0))
theorem Env1.new (w : World) (k i o : Int) : Env1 w (w.alloc (.cells #[.int .i64 k, .int .i64 i, .int .i64 o] 24)) k i o := ⟨(Below.refl _ _).alloc (Nat.le_refl _) _, heap_alloc_new w _⟩
theorem Env1.after (h : Env1 w W k i o) (hb : Below W.heap.size W W') : Env1 w W' k i o := ⟨h.below.trans (hb.mono h.below.size), (hb.block _ (Array.getElem?_eq_some_iff.1 h.v).1).trans h.v⟩
theorem Env1.alloc (h : Env1 w W k i o) (x : Obj) : Env1 w (W.alloc x) k i o := h.after ((Below.refl _ _).alloc (Nat.le_refl _) _)
theorem Env1.drew (h : Env1 w W k i o) : Env1 w W.drew k i o := ⟨h.below.drew, h.v⟩
theorem Env1.vv (h : Env1 w W k i o) : W.cell? ⟨w.heap.size, 0, none⟩ = some (.int .i64 k) ∧ W.cell? ⟨w.heap.size, 1, none⟩ = some (.int .i64 i) ∧ W.cell? ⟨w.heap.size, 2, none⟩ = some (.int .i64 o) :=
  ⟨Go.Joins.cell_of_block h.v 0, Go.Joins.cell_of_block h.v 1, Go.Joins.cell_of_block h.v 2⟩
/-- reach, called while the pointer's variable stands, and the block that it finds -/
def FindE (w : World) (g : Nat) (k i o n : Int) (p : Nat) (S : Value) (kd : Int) : Prop :=
  ∀ W, Env1 w W k i o → Calls Tryd.prog 59 #[.pointer (some ⟨g, 0, none⟩), .agg #[.int .i64 k, .int .i64 i, .int .i64 o], .int .i64 n] W fun e w' => e = .returned (.tuple #[.pointer (some ⟨p, 0, none⟩), S, .int .i64 0]) ∧ Env1 w w' k i o ∧ w'.cell? ⟨p, 0, none⟩ = some (.int .i64 kd)
def AnyE (w : World) (g : Nat) (k i o n E : Int) : Prop :=
  ∀ W, Env1 w W k i o → Calls Tryd.prog 59 #[.pointer (some ⟨g, 0, none⟩), .agg #[.int .i64 k, .int .i64 i, .int .i64 o], .int .i64 n] W fun e w' => (∃ P S, e = .returned (.tuple #[P, S, .int .i64 E])) ∧ Env1 w w' k i o
theorem findE (h : Sto w B g N st L) {n : Int} {j : Nat} {x : Bk} (hj : st.bl[j]? = some x) (hd : x.dead = false) (o0 : 0 ≤ o) (hl : o + n ≤ x.bs.length) (n0 : 0 ≤ n) (i1 : (j : Int) + 1 ≤ 9223372036854775807) :
    FindE w g 2 ((j : Int) + 1) o n (L.pb j) (sliceAt (L.py j) x.bs.length o n) x.kind := fun W hW => by
  have := reach_any (h.below hW.below) 2 ((j : Int) + 1) o n (by omega) i1 n0
  rw [reachR_ok hj hd o0 hl n0] at this
  exact this.mono fun e w' ⟨a, b⟩ => ⟨a, hW.after b, Go.Joins.cell_of_block (((h.below hW.below).below b).body j x hj).2.2.1 0⟩
theorem anyE (h : Sto w B g N st L) {n : Int} (i0 : -9223372036854775808 ≤ i) (i1 : i ≤ 9223372036854775807) (n0 : 0 ≤ n) : AnyE w g k i o n (reachE st k i o n) := fun W hW => by
  obtain ⟨P, S, hf⟩ := reachR_form st L k i o n
  have := reach_any (h.below hW.below) k i o n i0 i1 n0
  rw [hf] at this
  exact this.mono fun e w' ⟨x, y⟩ => ⟨⟨P, S, x⟩, hW.after y⟩
theorem putB_put {l : List By} {q : Nat} {x z : By} (h : q < l.length) : putB (putB l q [x]) q [z] = putB l q [z] := by
  have h1 : q + [x].length ≤ l.length := by simp; omega
  have h2 : q + [z].length ≤ l.length := by simp; omega
  have h3 : q + [z].length ≤ (putB l q [x]).length := by rw [putB_length h1]; exact h2
  apply List.ext_getElem?
  intro i
  rw [putB_get h3, putB_get h2, putB_get h1]
  simp only [List.length_singleton]
  by_cases a1 : i < q
  · simp [a1]
  · by_cases a2 : i < q + 1
    · simp [a1, a2]
    · simp [a1, a2]
theorem put_put {st : St} {j q : Nat} {x z : By} {b : Bk} (hj : st.bl[j]? = some b) (h : q < b.bs.length) : (st.put j q [x]).put j q [z] = st.put j q [z] := by
  rw [put_set q [z] hj, put_set q [z] (put_self q [x] hj), put_set q [x] hj]
  simp [putB_put h]
/-- a store of a whole byte into a block -/
theorem wpList_byte {ops : Array Oper} {rest : List Oper} {od : Oper} {a : Act} {Q : Exit → Act → World → Prop} (hgd : od.guard = none) (ad va : Operand) (hop : od.op = .store 54 ad va)
    (h : Wk w W B g N st L k i o) {j : Nat} {b : Bk} (hj : st.bl[j]? = some b) {p q : Nat} (hp : p = 6 * q) (hq : q < b.bs.length) (x : By) (had : a.eval ad = .pointer (some ⟨L.py j, p, none⟩)) (hva : a.eval va = .agg x.cells.toArray)
    (hK : ∀ W', Wk w W' B g N (st.put j q [x]) L k i o → (∀ r, r ≠ L.py j → W'.heap[r]? = W.heap[r]?) → wpList Tryd.prog ops Q rest (a.put od.dst undef) W') : wpList Tryd.prog ops Q (od :: rest) a W := by
  refine wpList_plain hgd fun K' hK' => ?_
  subst hp
  have hp := h.put hj q [x] (by simp; omega)
  have hrun := run_storeCells_at Tryd.prog (L.py j) (6 * q) 54 x.cells 0 (bys b.bs).toArray W (h.sto.body j b hj).2.2.2.1 (by simp [By.cells, bys_length]; omega) (by simp [By.cells, Value.oneCell'])
  have ho : ∀ (cs : Array Value) (r : Nat), r ≠ L.py j → (W.setRow (L.py j) cs).heap[r]? = W.heap[r]? := fun cs r hr => setRow_other _ _ _ _ hr
  unfold Oper.wp
  have h6 : x.cells.length = 6 := rfl
  simp [execOp, hop, Instr.storeAt, Instr.sureAddr, storeVar, had, hva, Value.cells, hrun, h6, Result.andThen]
  refine hK' _ _ (hK _ ?_ (ho _))
  simpa [bys, Nat.mul_add] using hp
end
end Go.Proofs.YtejhphnlickjlaaDoor.bl
namespace Go.Proofs.YtejhphnlickjlaaDoor.bl
open Go.RowKit
open M ty
set_option linter.unusedVariables false
theorem ret_int {a b : Int} (h : a = b) : Ending.returned (.int .i64 a) = .returned (.int .i64 b) := by rw [h]
/-- the bytes l stand in block y from place p on -/
def BytesAt (W : World) (y p : Nat) (l : List By) : Prop := ∀ i x, l[i]? = some x → W.cell? ⟨y, p + i * 6, none⟩ = some (.int .i64 x.k) ∧ W.cell? ⟨y, p + i * 6 + 1, none⟩ = some (.int .i64 x.n) ∧ W.cell? ⟨y, p + i * 6 + 2, none⟩ = some (.int .i64 x.c) ∧
  W.cell? ⟨y, p + i * 6 + 3, none⟩ = some (.int .i64 x.a) ∧ W.cell? ⟨y, p + i * 6 + 4, none⟩ = some (.int .i64 x.i) ∧ W.cell? ⟨y, p + i * 6 + 5, none⟩ = some (.int .i64 x.o)
section
variable {w W W' : World} {B g N : Nat} {st : St} {L : Lay}
theorem BytesAt.below {y p : Nat} {l : List By} (h : BytesAt w y p l) (hb : Below w.heap.size w W) : BytesAt W y p l := fun i x hx => by
  obtain ⟨h0, h1, h2, h3, h4, h5⟩ := h i x hx
  exact ⟨(hb.cell (World.block_lt_of_cell? w _ h0)).trans h0, (hb.cell (World.block_lt_of_cell? w _ h1)).trans h1, (hb.cell (World.block_lt_of_cell? w _ h2)).trans h2, (hb.cell (World.block_lt_of_cell? w _ h3)).trans h3, (hb.cell (World.block_lt_of_cell? w _ h4)).trans h4, (hb.cell (World.block_lt_of_cell? w _ h5)).trans h5⟩
theorem Sto.bytesAt (h : Sto w B g N st L) {j : Nat} {b : Bk} (hj : st.bl[j]? = some b) (q n : Nat) : BytesAt w (L.py j) (q * 6) ((b.bs.drop q).take n) := fun i x hx => by
  have hi : i < n := by
    have := (List.getElem?_eq_some_iff.1 hx).1
    simp at this
    omega
  rw [List.getElem?_take_of_lt hi, List.getElem?_drop] at hx
  have e : q * 6 + i * 6 = 6 * (q + i) := by omega
  rw [e]
  exact ⟨h.rowBlock hj hx (r := 0) (by omega), h.rowBlock hj hx (r := 1) (by omega), h.rowBlock hj hx (r := 2) (by omega), h.rowBlock hj hx (r := 3) (by omega), h.rowBlock hj hx (r := 4) (by omega), h.rowBlock hj hx (r := 5) (by omega)⟩
/-- has nobody set it? -/
def isUn (x : By) : Bool := x.k == 0
theorem close_61 (x : By) (w : World) : Calls Tryd.prog 61 #[.agg #[.int .i64 x.k, .int .i64 x.n, .int .i64 x.c, .int .i64 x.a, .int .i64 x.i, .int .i64 x.o]] w fun e w' => e = .returned (.bool (isUn x)) ∧ Below w.heap.size w w' := by
  unfold isUn
  go_enter Tryd.func61, Tryd.ntmps61
  go_wp2
  go_ret
  exact ⟨rfl, (Below.refl _ _).alloc (Nat.le_refl _) _⟩
set_option maxRecDepth 20000 in
set_option maxHeartbeats 1600000 in
theorem index_61 (y p n c : Nat) (l : List By) (w : World) (hl : l.length = n) (hn : n ≤ 131072) (hA : BytesAt w y p l) :
    Calls Tryd.prog 79 #[.slice (some ⟨y, p, none⟩) n c, .func (.func 61) #[] #[]] w fun e w' => e = .returned (.int .i64 (if l.findIdx isUn < n then (l.findIdx isUn : Int) else -1)) ∧ Below w.heap.size w w' := by
  have Hl := Lib.hid hl
  have HA := Lib.hid hA
  clear hl hA
  generalize hans : (if l.findIdx isUn < n then (l.findIdx isUn : Int) else -1) = ans
  have Hans := Lib.hid hans
  clear hans
  go_enter Tryd.func79, Tryd.ntmps79
  go_wp2_with fail
  go_loopw [8] (fun i wr => ∃ (k : Nat), k ≤ n ∧ i = .int .i64 k ∧ k ≤ l.findIdx isUn ∧ Below w.heap.size w wr) (fun i _ => n - (intOf i).toNat)
  case atStart => exact ⟨0, by omega, rfl, by omega, Below.refl _ _⟩
  case round =>
    obtain ⟨k, hk, rfl, hi, hb⟩ := hrel
    by_cases hlt : k < n
    · have hk' : k < l.length := by rw [Hl.out]; exact hlt
      have hxk : l[k]? = some l[k] := List.getElem?_eq_getElem hk'
      obtain ⟨a0, a1, a2, a3, a4, a5⟩ := (HA.out.below hb) k _ hxk
      have HF := Lib.hid (close_61 l[k] wr)
      have hsz := hb.size
      by_cases hpx : isUn l[k] = true
      · have Hfin : Hid (ans = (k : Int)) := Lib.hid (by
          have h1 : l.findIdx isUn ≤ k := by
            rcases Nat.lt_or_ge k (l.findIdx isUn) with h | h
            · have := List.not_of_lt_findIdx h
              rw [hpx] at this
              cases this
            · exact h
          rw [← Hans.out, if_pos (by omega)]
          omega)
        rw [hpx] at HF
        clear hxk hpx
        generalize l[k] = x at *
        clear hk'
        go_wp2_with (go_at_call 61; refine HF.out.mono ?_; rintro e' w2 ⟨rfl, hb2⟩)
        go_ret
        exact ⟨ret_int Hfin.out.symm, hb.trans (hb2.mono hsz)⟩
      · have hpx' : isUn l[k] = false := by simpa using hpx
        have Hfin : Hid (k + 1 ≤ l.findIdx isUn) := Lib.hid (by
          rcases Nat.lt_or_ge k (l.findIdx isUn) with h | h
          · exact h
          · have e : k = l.findIdx isUn := by omega
            have := List.findIdx_getElem (p := isUn) (xs := l) (w := by omega)
            simp only [← e] at this
            rw [hpx'] at this
            cases this)
        rw [hpx'] at HF
        clear hxk hpx hpx'
        generalize l[k] = x at *
        clear hk'
        go_wp2_with (go_at_call 61; refine HF.out.mono ?_; rintro e' w2 ⟨rfl, hb2⟩)
        go_roundw
        case rel => exact ⟨k + 1, by omega, by go_num, Hfin.out, hb.trans (hb2.mono hsz)⟩
        case measure => simp [intOf]; omega
    · obtain rfl : k = n := by omega
      go_wp2_with fail
      go_ret
      exact ⟨ret_int (by rw [← Hans.out, if_neg (by omega)]), hb⟩
theorem contains_61 (y p n c : Nat) (l : List By) (w : World) (hl : l.length = n) (hn : n ≤ 131072) (hA : BytesAt w y p l) :
    Calls Tryd.prog 60 #[.slice (some ⟨y, p, none⟩) n c, .func (.func 61) #[] #[]] w fun e w' => e = .returned (.bool (l.any isUn)) ∧ Below w.heap.size w w' := by
  have HI := Lib.hid (index_61 y p n c l w hl hn hA)
  rw [show l.any isUn = decide (l.findIdx isUn < n) from by rw [← hl, Bool.eq_iff_iff, decide_eq_true_iff, List.any_eq_true, List.findIdx_lt_length]]
  by_cases h : l.findIdx isUn < n
  · rw [if_pos h] at HI
    rw [show decide (l.findIdx isUn < n) = true from by simp [h]]
    clear hl hA
    generalize l.findIdx isUn = k at *
    clear h
    go_enter Tryd.func60, Tryd.ntmps60
    go_wp2_with (go_at_call 79; refine HI.out.mono ?_; rintro e w1 ⟨rfl, hb1⟩)
    go_ret
    exact ⟨rfl, hb1⟩
  · rw [if_neg h] at HI
    rw [show decide (l.findIdx isUn < n) = false from by simp [h]]
    clear hl hA h
    go_enter Tryd.func60, Tryd.ntmps60
    go_wp2_with (go_at_call 79; refine HI.out.mono ?_; rintro e w1 ⟨rfl, hb1⟩)
    go_ret
    exact ⟨rfl, hb1⟩
theorem close_64 (x : By) (w : World) : Calls Tryd.prog 64 #[.agg #[.int .i64 x.k, .int .i64 x.n, .int .i64 x.c, .int .i64 x.a, .int .i64 x.i, .int .i64 x.o]] w fun e w' => e = .returned (.bool (isUn x)) ∧ Below w.heap.size w w' := by
  unfold isUn
  go_enter Tryd.func64, Tryd.ntmps64
  go_wp2
  go_ret
  exact ⟨rfl, (Below.refl _ _).alloc (Nat.le_refl _) _⟩
set_option maxRecDepth 20000 in
set_option maxHeartbeats 1600000 in
theorem index_64 (y p n c : Nat) (l : List By) (w : World) (hl : l.length = n) (hn : n ≤ 131072) (hA : BytesAt w y p l) :
    Calls Tryd.prog 79 #[.slice (some ⟨y, p, none⟩) n c, .func (.func 64) #[] #[]] w fun e w' => e = .returned (.int .i64 (if l.findIdx isUn < n then (l.findIdx isUn : Int) else -1)) ∧ Below w.heap.size w w' := by
  have Hl := Lib.hid hl
  have HA := Lib.hid hA
  clear hl hA
  generalize hans : (if l.findIdx isUn < n then (l.findIdx isUn : Int) else -1) = ans
  have Hans := Lib.hid hans
  clear hans
  go_enter Tryd.func79, Tryd.ntmps79
  go_wp2_with fail
  go_loopw [8] (fun i wr => ∃ (k : Nat), k ≤ n ∧ i = .int .i64 k ∧ k ≤ l.findIdx isUn ∧ Below w.heap.size w wr) (fun i _ => n - (intOf i).toNat)
  case atStart => exact ⟨0, by omega, rfl, by omega, Below.refl _ _⟩
  case round =>
    obtain ⟨k, hk, rfl, hi, hb⟩ := hrel
    by_cases hlt : k < n
    · have hk' : k < l.length := by rw [Hl.out]; exact hlt
      have hxk : l[k]? = some l[k] := List.getElem?_eq_getElem hk'
      obtain ⟨a0, a1, a2, a3, a4, a5⟩ := (HA.out.below hb) k _ hxk
      have HF := Lib.hid (close_64 l[k] wr)
      have hsz := hb.size
      by_cases hpx : isUn l[k] = true
      · have Hfin : Hid (ans = (k : Int)) := Lib.hid (by
          have h1 : l.findIdx isUn ≤ k := by
            rcases Nat.lt_or_ge k (l.findIdx isUn) with h | h
            · have := List.not_of_lt_findIdx h
              rw [hpx] at this
              cases this
            · exact h
          rw [← Hans.out, if_pos (by omega)]
          omega)
        rw [hpx] at HF
        clear hxk hpx
        generalize l[k] = x at *
        clear hk'
        go_wp2_with (go_at_call 64; refine HF.out.mono ?_; rintro e' w2 ⟨rfl, hb2⟩)
        go_ret
        exact ⟨ret_int Hfin.out.symm, hb.trans (hb2.mono hsz)⟩
      · have hpx' : isUn l[k] = false := by simpa using hpx
        have Hfin : Hid (k + 1 ≤ l.findIdx isUn) := Lib.hid (by
          rcases Nat.lt_or_ge k (l.findIdx isUn) with h | h
          · exact h
          · have e : k = l.findIdx isUn := by omega
            have := List.findIdx_getElem (p := isUn) (xs := l) (w := by omega)
            simp only [← e] at this
            rw [hpx'] at this
            cases this)
        rw [hpx'] at HF
        clear hxk hpx hpx'
        generalize l[k] = x at *
        clear hk'
        go_wp2_with (go_at_call 64; refine HF.out.mono ?_; rintro e' w2 ⟨rfl, hb2⟩)
        go_roundw
        case rel => exact ⟨k + 1, by omega, by go_num, Hfin.out, hb.trans (hb2.mono hsz)⟩
        case measure => simp [intOf]; omega
    · obtain rfl : k = n := by omega
      go_wp2_with fail
      go_ret
      exact ⟨ret_int (by rw [← Hans.out, if_neg (by omega)]), hb⟩
theorem contains_64 (y p n c : Nat) (l : List By) (w : World) (hl : l.length = n) (hn : n ≤ 131072) (hA : BytesAt w y p l) :
    Calls Tryd.prog 60 #[.slice (some ⟨y, p, none⟩) n c, .func (.func 64) #[] #[]] w fun e w' => e = .returned (.bool (l.any isUn)) ∧ Below w.heap.size w w' := by
  have HI := Lib.hid (index_64 y p n c l w hl hn hA)
  rw [show l.any isUn = decide (l.findIdx isUn < n) from by rw [← hl, Bool.eq_iff_iff, decide_eq_true_iff, List.any_eq_true, List.findIdx_lt_length]]
  by_cases h : l.findIdx isUn < n
  · rw [if_pos h] at HI
    rw [show decide (l.findIdx isUn < n) = true from by simp [h]]
    clear hl hA
    generalize l.findIdx isUn = k at *
    clear h
    go_enter Tryd.func60, Tryd.ntmps60
    go_wp2_with (go_at_call 79; refine HI.out.mono ?_; rintro e w1 ⟨rfl, hb1⟩)
    go_ret
    exact ⟨rfl, hb1⟩
  · rw [if_neg h] at HI
    rw [show decide (l.findIdx isUn < n) = false from by simp [h]]
    clear hl hA h
    go_enter Tryd.func60, Tryd.ntmps60
    go_wp2_with (go_at_call 79; refine HI.out.mono ?_; rintro e w1 ⟨rfl, hb1⟩)
    go_ret
    exact ⟨rfl, hb1⟩
end
end Go.Proofs.YtejhphnlickjlaaDoor.bl
