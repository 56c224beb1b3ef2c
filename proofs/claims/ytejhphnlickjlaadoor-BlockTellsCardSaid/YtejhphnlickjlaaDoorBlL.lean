/-
  Bytes put into a block of a store, plainly and in memory. No program's code in sight.
-/
import Derived.Test.YtejhphnlickjlaaDoorBlA
import Derived.Laws.CopyOwn
import Derived.Test.YtejhphnlickjlaaDoorBlK
set_option linter.unusedVariables false
set_option linter.unusedSimpArgs false
namespace Go.Proofs.YtejhphnlickjlaaDoor.bl
open Go.RowKit
open M
set_option linter.unusedVariables false
theorem heap_set {w : World} {p o : Nat} {cs : Array Value} {t : TypeId} (h : w.heap[p]? = some (.cells cs t (0, 0))) (u : Value) : (w.setCell ⟨p, o, none⟩ u).heap[p]? = some (.cells (cs.setIfInBounds o u) t (0, 0)) := by
  simp [World.setCell, Array.getElem?_modify, h]
theorem heap_set_other {w : World} {p o q : Nat} (u : Value) (h : q ≠ p) : (w.setCell ⟨p, o, none⟩ u).heap[q]? = w.heap[q]? := Below.heap_setCell _ _ _ _ h
/-- is it one of the store's own blocks? -/
def Mine (g : Nat) (L : Lay) (n q : Nat) : Prop := q = g ∨ q = L.gm ∨ (∃ r, L.A = some r ∧ q = r.block) ∨ ∃ j, j < n ∧ (q = L.pb j ∨ q = L.py j)
/-- all is as it was but for the store's own blocks -/
structure Fr (w W : World) (g : Nat) (L : Lay) (n : Nat) : Prop where
  os : W.os = w.os
  tape : W.tape = w.tape
  output : W.output = w.output
  size : w.heap.size ≤ W.heap.size
  block : ∀ q, q < w.heap.size → ¬ Mine g L n q → W.heap[q]? = w.heap[q]?
section
variable {w W W' : World} {g n : Nat} {L : Lay}
theorem Fr.of_below (h : Below w.heap.size w W) : Fr w W g L n := ⟨h.os, h.tape, h.output, h.size, fun q hq _ => h.block q hq⟩
theorem Fr.refl (w : World) (g : Nat) (L : Lay) (n : Nat) : Fr w w g L n := .of_below (Below.refl _ _)
theorem Fr.after (h : Fr w W g L n) (hb : Below W.heap.size W W') : Fr w W' g L n := ⟨hb.os.trans h.os, hb.tape.trans h.tape, hb.output.trans h.output, Nat.le_trans h.size hb.size, fun q hq hm => (hb.block q (Nat.lt_of_lt_of_le hq h.size)).trans (h.block q hq hm)⟩
theorem Fr.trans (h : Fr w W g L n) (k : Fr W W' g L n) : Fr w W' g L n := ⟨k.os.trans h.os, k.tape.trans h.tape, k.output.trans h.output, Nat.le_trans h.size k.size, fun q hq hm => (k.block q (Nat.lt_of_lt_of_le hq h.size) hm).trans (h.block q hq hm)⟩
theorem Fr.drew (h : Fr w W g L n) : Fr w W.drew g L n := ⟨h.os, h.tape, h.output, h.size, h.block⟩
theorem Fr.alloc (h : Fr w W g L n) (x : Obj) : Fr w (W.alloc x) g L n := h.after ((Below.refl _ _).alloc (Nat.le_refl _) _)
theorem Fr.setCell (h : Fr w W g L n) {p r : Nat} (hp : Mine g L n p) (v : Value) : Fr w (W.setCell ⟨p, r, none⟩ v) g L n :=
  ⟨h.os, h.tape, h.output, by simpa [World.setCell] using h.size, fun q hq hm => (heap_set_other v (fun e => hm (by rw [e]; exact hp))).trans (h.block q hq hm)⟩
theorem Fr.setRow (h : Fr w W g L n) {p : Nat} (hp : Mine g L n p) (cs : Array Value) : Fr w (W.setRow p cs) g L n :=
  ⟨h.os, h.tape, h.output, by simpa [World.setRow] using h.size, fun q hq hm => (setRow_other W p q cs (fun e => hm (by rw [e]; exact hp))).trans (h.block q hq hm)⟩
theorem Fr.grown (h : Fr w W g L n) {row : Option Nat} (hg : W.grownBy W' row) (hr : ∀ r, row = some r → Mine g L n r) : Fr w W' g L n :=
  ⟨hg.os.trans h.os, hg.tape.trans h.tape, hg.output.trans h.output, Nat.le_trans h.size hg.size, fun q hq hm => (hg.block q (Nat.lt_of_lt_of_le hq h.size) (fun e => hm (hr q e.symm))).trans (h.block q hq hm)⟩
end
section
variable {w w' : World} {B g N : Nat} {st : St} {L : Lay}
/-- the store's own cells of numbers are written, nothing else -/
theorem Sto.setTop (h : Sto w B g N st L) {live' sum' : Int} (ht : w'.heap[g]? = some (.cells #[.slice L.A st.bl.length L.c, .int .i64 live', .int .i64 sum', .map (some L.gm)] 106 (0, 0)))
    (hk : ∀ q, q < w.heap.size → q ≠ g → w'.heap[q]? = w.heap[q]?) : Sto w' B g N { st with live := live', sum := sum' } L := by
  have l : ∀ {q : Nat} {x : Obj}, w.heap[q]? = some x → (∀ cs, x ≠ Obj.cells cs 106 (0, 0)) → w'.heap[q]? = some x := fun {q x} hq hx =>
    (hk q (Array.getElem?_eq_some_iff.1 hq).1 (fun e => by subst e; rw [h.top] at hq; exact hx _ (Option.some.inj hq).symm)).trans hq
  refine ⟨h.Bg, ht, ⟨h.row.1, ?_⟩, h.Bm, ?_, fun j b hb => ?_, h.injp, h.injy⟩
  · rcases h.row.2 with h0 | ⟨g', cap, cur, hv, hg, hh, r⟩
    · exact .inl h0
    · exact .inr ⟨g', cap, cur, hv, hg, l hh (by intro cs e; cases e), r⟩
  · obtain ⟨D, es, clock, hb, r⟩ := h.map
    exact ⟨D, es, clock, l hb (by intro cs e; cases e), r⟩
  · obtain ⟨h1, h2, h3, h4, h5⟩ := h.body j b hb
    exact ⟨h1, h2, l h3 (by intro cs e; cases e), l h4 (by intro cs e; cases e), h5⟩
/-- the body of number j is written, nothing else -/
theorem Sto.setBody (h : Sto w B g N st L) {j : Nat} {b b' : Bk} (hj : st.bl[j]? = some b) (hbs : b'.bs = b.bs)
    (hp : w'.heap[L.pb j]? = some (.cells (b'.cells (L.py j)) 102 (0, 0))) (hk : ∀ q, q < w.heap.size → q ≠ L.pb j → w'.heap[q]? = w.heap[q]?) :
    Sto w' B g N { st with bl := st.bl.set j b' } L := by
  obtain ⟨b1, b2, b3, b4, b5⟩ := h.body j b hj
  have l : ∀ {q : Nat} {x : Obj}, w.heap[q]? = some x → (∀ cs, x ≠ Obj.cells cs 102 (0, 0)) → w'.heap[q]? = some x := fun {q x} hq hx =>
    (hk q (Array.getElem?_eq_some_iff.1 hq).1 (fun e => by subst e; rw [b3] at hq; exact hx _ (Option.some.inj hq).symm)).trans hq
  have hlen' : (st.bl.set j b').length = st.bl.length := by simp
  have hjl : j < st.bl.length := (List.getElem?_eq_some_iff.1 hj).1
  refine ⟨h.Bg, ?_, ?_, h.Bm, ?_, fun i x hx => ?_, ?_, ?_⟩
  · simp only [hlen']; exact l h.top (by intro cs e; cases e)
  · simp only [hlen']
    refine ⟨h.row.1, ?_⟩
    rcases h.row.2 with h0 | ⟨g', cap, cur, hv, hg, hh, r⟩
    · exact .inl h0
    · exact .inr ⟨g', cap, cur, hv, hg, l hh (by intro cs e; cases e), r⟩
  · obtain ⟨D, es, clock, hb, r⟩ := h.map
    exact ⟨D, es, clock, l hb (by intro cs e; cases e), r⟩
  · by_cases hij : i = j
    · subst hij
      rw [List.getElem?_set_self hjl] at hx
      obtain rfl := (Option.some.inj hx).symm
      exact ⟨b1, b2, hp, by rw [hbs]; exact l b4 (by intro cs e; cases e), by rw [hbs]; exact b5⟩
    · rw [List.getElem?_set_ne (fun e => hij e.symm)] at hx
      obtain ⟨c1, c2, c3, c4, c5⟩ := h.body i x hx
      have hil : i < st.bl.length := (List.getElem?_eq_some_iff.1 hx).1
      exact ⟨c1, c2, (hk _ (Array.getElem?_eq_some_iff.1 c3).1 (fun e => hij (h.injp i j hil hjl e))).trans c3, l c4 (by intro cs e; cases e), c5⟩
  · simp only [hlen']; exact h.injp
  · simp only [hlen']; exact h.injy
theorem Sto.mine_top (h : Sto w B g N st L) : Mine g L st.bl.length g := .inl rfl
theorem Sto.mine_map (h : Sto w B g N st L) : Mine g L st.bl.length L.gm := .inr (.inl rfl)
theorem Sto.mine_pb (h : Sto w B g N st L) {j : Nat} {b : Bk} (hj : st.bl[j]? = some b) : Mine g L st.bl.length (L.pb j) := .inr (.inr (.inr ⟨j, (List.getElem?_eq_some_iff.1 hj).1, .inl rfl⟩))
theorem Sto.mine_py (h : Sto w B g N st L) {j : Nat} {b : Bk} (hj : st.bl[j]? = some b) : Mine g L st.bl.length (L.py j) := .inr (.inr (.inr ⟨j, (List.getElem?_eq_some_iff.1 hj).1, .inr rfl⟩))
theorem Sto.mine_ge (h : Sto w B g N st L) {q : Nat} (hq : Mine g L st.bl.length q) : B ≤ q := by
  rcases hq with rfl | rfl | ⟨r, hr, rfl⟩ | ⟨j, hj, hq⟩
  · exact h.Bg
  · exact h.Bm
  · rcases h.row.2 with ⟨hv, _⟩ | ⟨g', cap, cur, hv, hg, hh, _⟩
    · rw [hr] at hv; cases hv
    · rw [hr] at hv
      injection hv with h1
      injection h1 with h2
      subst h2
      exact hg
  · obtain ⟨c1, c2, _⟩ := h.body j _ (List.getElem?_eq_getElem hj)
    rcases hq with rfl | rfl
    · exact c1
    · exact c2
theorem Sto.mine_lt (h : Sto w B g N st L) {q : Nat} (hq : Mine g L st.bl.length q) : q < w.heap.size := by
  rcases hq with rfl | rfl | ⟨r, hr, rfl⟩ | ⟨j, hj, hq⟩
  · exact h.lt
  · obtain ⟨D, es, clock, hb, r⟩ := h.map
    exact (Array.getElem?_eq_some_iff.1 hb).1
  · rcases h.row.2 with ⟨hv, _⟩ | ⟨g', cap, cur, hv, hg, hh, _⟩
    · rw [hr] at hv; cases hv
    · rw [hr] at hv
      injection hv with h1
      injection h1 with h2
      subst h2
      exact (Array.getElem?_eq_some_iff.1 hh).1
  · obtain ⟨_, _, c3, c4, _⟩ := h.body j _ (List.getElem?_eq_getElem hj)
    rcases hq with rfl | rfl
    · exact (Array.getElem?_eq_some_iff.1 c3).1
    · exact (Array.getElem?_eq_some_iff.1 c4).1
theorem Fr.below {W : World} (h : Fr w W g L st.bl.length) (hs : Sto w B g N st L) : Below B w W :=
  ⟨h.os, h.tape, h.output, h.size, fun q hq => h.block q (by have := hs.lt; have := hs.Bg; omega) (fun hm => by have := hs.mine_ge hm; omega)⟩
end
end Go.Proofs.YtejhphnlickjlaaDoor.bl
namespace Go.Proofs.YtejhphnlickjlaaDoor.bl
open Go.RowKit
open M
set_option linter.unusedVariables false
/-- z written over l from q on -/
def putB (l : List By) (q : Nat) (z : List By) : List By := l.take q ++ z ++ l.drop (q + z.length)
theorem putB_length {l z : List By} {q : Nat} (h : q + z.length ≤ l.length) : (putB l q z).length = l.length := by unfold putB; simp; omega
theorem putB_get {l z : List By} {q : Nat} (h : q + z.length ≤ l.length) (i : Nat) : (putB l q z)[i]? = if i < q then l[i]? else if i < q + z.length then z[i - q]? else l[i]? := by
  unfold putB
  by_cases h1 : i < q
  · rw [if_pos h1, List.getElem?_append_left (by simp; omega), List.getElem?_append_left (by simp; omega), List.getElem?_take_of_lt h1]
  · rw [if_neg h1]
    by_cases h2 : i < q + z.length
    · rw [if_pos h2, List.getElem?_append_left (by simp; omega), List.getElem?_append_right (by simp; omega)]
      congr 1; simp; omega
    · rw [if_neg h2, List.getElem?_append_right (by simp; omega), List.getElem?_drop]
      congr 1; simp; omega
theorem putB_nil (l : List By) (q : Nat) : putB l q [] = l := by simp [putB]
theorem putB_succ {l z : List By} {q k : Nat} {x : By} (hx : z[k]? = some x) (h : q + z.length ≤ l.length) : putB (putB l q (z.take k)) (q + k) [x] = putB l q (z.take (k + 1)) := by
  have hk : k < z.length := (List.getElem?_eq_some_iff.1 hx).1
  have l1 : (z.take k).length = k := by simp; omega
  have l2 : (z.take (k + 1)).length = k + 1 := by simp; omega
  have h1 : q + (z.take k).length ≤ l.length := by omega
  have h2 : q + (z.take (k + 1)).length ≤ l.length := by omega
  have h3 : (q + k) + [x].length ≤ (putB l q (z.take k)).length := by rw [putB_length h1]; simp; omega
  apply List.ext_getElem?
  intro i
  rw [putB_get h3, putB_get h2, putB_get h1, l1, l2, List.length_singleton]
  by_cases a1 : i < q
  · simp [a1, show i < q + k by omega]
  · by_cases a2 : i < q + k
    · simp [a1, a2, show i < q + (k + 1) by omega]
      rw [List.getElem?_take_of_lt (by omega), List.getElem?_take_of_lt (by omega)]
    · by_cases a3 : i < q + k + 1
      · obtain rfl : i = q + k := by omega
        rw [if_neg (by omega), if_pos (by omega), if_neg (by omega), if_pos (by omega), show q + k - (q + k) = 0 by omega, show q + k - q = k by omega]
        rw [List.getElem?_take_of_lt (Nat.lt_succ_self k), hx]
        rfl
      · rw [if_neg (by omega), if_neg (by omega), if_neg (by omega), if_neg (by omega), if_neg (by omega), if_neg (by omega)]
/-- the store behind z put into block j (counted from nought) from q on -/
def St.put (st : St) (j q : Nat) (z : List By) : St := { st with bl := st.bl.modify j fun b => { b with bs := putB b.bs q z } }
theorem put_length (st : St) (j q : Nat) (z : List By) : (st.put j q z).bl.length = st.bl.length := by simp [St.put]
theorem put_self {st : St} {j : Nat} {b : Bk} (q : Nat) (z : List By) (hj : st.bl[j]? = some b) : (st.put j q z).bl[j]? = some { b with bs := putB b.bs q z } := by
  simp [St.put, hj]
theorem put_other {st : St} {j i : Nat} (q : Nat) (z : List By) (hi : i ≠ j) : (st.put j q z).bl[i]? = st.bl[i]? := by
  simp [St.put, Ne.symm hi]
theorem put_set {st : St} {j : Nat} {b : Bk} (q : Nat) (z : List By) (hj : st.bl[j]? = some b) : st.put j q z = { st with bl := st.bl.set j { b with bs := putB b.bs q z } } := by
  unfold St.put
  congr 1
  apply List.ext_getElem?
  intro i
  have hjl := (List.getElem?_eq_some_iff.1 hj).1
  by_cases hi : j = i
  · subst hi
    rw [List.getElem?_modify, List.getElem?_set_self hjl]
    simp [hj]
  · rw [List.getElem?_modify, List.getElem?_set_ne hi]
    simp [hi]
theorem put_nil (st : St) (j q : Nat) : st.put j q [] = st := by
  unfold St.put
  have : (fun b : Bk => { b with bs := putB b.bs q [] }) = id := by funext b; simp [putB_nil]
  rw [this]
  simp
theorem put_succ {st : St} {j q k : Nat} {z : List By} {x : By} {b : Bk} (hj : st.bl[j]? = some b) (hx : z[k]? = some x) (h : q + z.length ≤ b.bs.length) : (st.put j q (z.take k)).put j (q + k) [x] = st.put j q (z.take (k + 1)) := by
  rw [put_set q (z.take (k + 1)) hj, put_set (q + k) [x] (put_self q (z.take k) hj), put_set q (z.take k) hj]
  simp [putB_succ hx h]
section
variable {w : World} {B g N : Nat} {st : St} {L : Lay}
theorem Sto.put (h : Sto w B g N st L) {j : Nat} {b : Bk} (hj : st.bl[j]? = some b) (q : Nat) (z : List By) (hq : q + z.length ≤ b.bs.length) :
    Sto (w.setRow (L.py j) ((bys b.bs).take (6 * q) ++ bys z ++ (bys b.bs).drop (6 * (q + z.length))).toArray) B g N (st.put j q z) L := by
  rw [put_set q z hj]
  exact h.splice hj q z hq
theorem Sto.rowBlock (h : Sto w B g N st L) {j : Nat} {b : Bk} (hj : st.bl[j]? = some b) {i r : Nat} {x : By} (hx : b.bs[i]? = some x) (hr : r < 6) : w.cell? ⟨L.py j, 6 * i + r, none⟩ = x.cells[r]? := by
  obtain ⟨_, _, _, b4, _⟩ := h.body j b hj
  have := bys_get b.bs i r x hx hr
  unfold World.cell?
  rw [b4]
  simpa using this
end
end Go.Proofs.YtejhphnlickjlaaDoor.bl
