/-
  The contract of Make of package block. Condition: a store stands in memory.
-/
import Derived.Test.YtejhphnlickjlaaDoorBlN
import Derived.Deep.OwnRows
import Derived.Deep.AppendLies
import Derived.Deep.RegionHeld3
import Derived.Deep.RegionLaw
set_option linter.unusedVariables false
set_option linter.unusedSimpArgs false
namespace Go.Proofs.YtejhphnlickjlaaDoor.bl
open Go.RowKit Go.Maps
open M ty
set_option linter.unusedVariables false
theorem info54z : (Tryd.prog.info? 54).map (fun i => (i.zero, i.size, i.bytes)) = some (some (.agg #[.int .i64 0, .int .i64 0, .int .i64 0, .int .i64 0, .int .i64 0, .int .i64 0]), 6, 48) := by kernel_rfl
theorem info92z : (Tryd.prog.info? 92).map (fun i => (i.zero, i.size, i.bytes)) = some (some (.pointer none), 1, 8) := by kernel_rfl
theorem madeCells_six (n : Nat) : madeCells #[.int .i64 0, .int .i64 0, .int .i64 0, .int .i64 0, .int .i64 0, .int .i64 0] (n * 6) = (bys (List.replicate n By.zero)).toArray := by
  have := zeroCells_six n
  rw [← Array.toList_inj]
  rw [List.toList_toArray, ← this]
  rfl
theorem run_mk (n : Nat) (hn : n ≤ 131072) (W : World) : (Instr.makeSlice 52 (.int .i64 n) (.int .i64 n)).run Tryd.prog W = .ok (.slice (some ⟨W.heap.size, 0, none⟩) n n) (W.alloc (.cells (bys (List.replicate n By.zero)).toArray 54)) := by
  obtain ⟨i, hi, hzz⟩ := Option.map_eq_some_iff.1 info54z
  simp only [Prod.mk.injEq] at hzz
  obtain ⟨hz, hs, hb⟩ := hzz
  have hr := run_make (P := Tryd.prog) W 52 54 i _ Tryd.underlying52 hi hz .i64 .i64 n n (by omega) (Int.le_refl _) (by rw [hb]; omega) (by omega)
  simp only [Int.toNat_natCast, hs, Value.cells] at hr
  rw [hr, madeCells_six]
/-- a layout with one block more -/
def Lay.push (L : Lay) (len gg cap p y : Nat) : Lay := ⟨some ⟨gg, 0, none⟩, cap, L.gm, fun i => if i = len then p else L.pb i, fun i => if i = len then y else L.py i⟩
theorem ptrs_push (pb : Nat → Nat) (len p : Nat) : ptrs (fun i => if i = len then p else pb i) (len + 1) = ptrs pb len ++ [.pointer (some ⟨p, 0, none⟩)] := by
  unfold ptrs
  rw [List.range_succ, List.map_append]
  congr 1
  · apply List.map_congr_left
    intro j hj
    rw [List.mem_range] at hj
    show Value.pointer (some ⟨if j = len then p else pb j, 0, none⟩) = _
    rw [if_neg (by omega)]
  · simp
theorem ne_of_type {W : World} {q g : Nat} {cs cs' : Array Value} {t t' : TypeId} (h : W.heap[q]? = some (.cells cs t (0, 0))) (h' : W.heap[g]? = some (.cells cs' t' (0, 0))) (ht : t ≠ t') : q ≠ g := fun e => by
  subst e
  rw [h] at h'
  have := Option.some.inj h'
  injection this with _ h2
  exact ht h2
/-- the store with an empty place for one block more -/
def St.push (st : St) (kind : Int) (n : Nat) : St := { st with bl := st.bl ++ [⟨kind, false, List.replicate n By.zero⟩] }
section
variable {w W W' : World} {B g N : Nat} {st : St} {L : Lay}
theorem Sto.push (h : Sto w B g N st L) (hb : Below w.heap.size w W) {p y : Nat} (hp0 : w.heap.size ≤ p) (hy0 : w.heap.size ≤ y) {kind : Int} {n : Nat} (hn : n ≤ 131072)
    (hp : W.heap[p]? = some (.cells #[.int .i64 kind, .bool false, .slice (some ⟨y, 0, none⟩) n n] 102 (0, 0))) (hy : W.heap[y]? = some (.cells (bys (List.replicate n By.zero)).toArray 54 (0, 0)))
    {gg cap : Nat} (hgrow : W.grownBy W' (Value.slice L.A st.bl.length L.c).ownBlock)
    (hown : W'.ownsRow B 92 1 (.slice (some ⟨gg, 0, none⟩) (st.bl.length + 1) cap) (st.bl.length + 1) (ptrs L.pb st.bl.length ++ [.pointer (some ⟨p, 0, none⟩)])) :
    Sto (W'.setCell ⟨g, 0, none⟩ (.slice (some ⟨gg, 0, none⟩) (st.bl.length + 1) cap)) B g N (st.push kind n) (L.push st.bl.length gg cap p y) := by
  have hB : B ≤ w.heap.size := Nat.le_of_lt (Nat.lt_of_le_of_lt h.Bg h.lt)
  have old : ∀ {q : Nat} {x : Obj}, w.heap[q]? = some x → (∀ cs, x ≠ Obj.cells cs 92 (0, 0)) → W'.heap[q]? = some x := fun {q x} hq hx => by
    have hlt := (Array.getElem?_eq_some_iff.1 hq).1
    refine (hgrow.block q (Nat.lt_of_lt_of_le hlt hb.size) (fun e => ?_)).trans ((hb.block q hlt).trans hq)
    rcases h.row.2 with ⟨hv, _⟩ | ⟨g', cap', cur, hv, hg', hh, r⟩
    · rw [hv] at e; cases e
    · rw [hv] at e
      have e2 : g' = q := by
        have := Option.some.inj e
        exact this.symm
      subst e2
      rw [hh] at hq
      exact hx _ (Option.some.inj hq).symm
  have new : ∀ {q : Nat} {x : Obj}, w.heap.size ≤ q → W.heap[q]? = some x → W'.heap[q]? = some x := fun {q x} hq0 hq => by
    have hlt := (Array.getElem?_eq_some_iff.1 hq).1
    refine (hgrow.block q hlt (fun e => ?_)).trans hq
    rcases h.row.2 with ⟨hv, _⟩ | ⟨g', cap', cur, hv, hg', hh, r⟩
    · rw [hv] at e; cases e
    · rw [hv] at e
      have e2 : g' = q := by
        have := Option.some.inj e
        exact this.symm
      have := (Array.getElem?_eq_some_iff.1 hh).1
      omega
  have htop := old h.top (by intro cs e; cases e)
  obtain ⟨g', cap', cur, hv', hbg, hgh, hr'⟩ : ∃ g' cap' cur, (Value.slice (some ⟨gg, 0, none⟩) (st.bl.length + 1) cap) = .slice (some ⟨g', 0, none⟩) (st.bl.length + 1) cap' ∧ B ≤ g' ∧ W'.heap[g']? = some (.cells cur 92 (0, 0)) ∧ True := by
    rcases hown.2 with ⟨hv, h0⟩ | ⟨g', cap', cur, hv, hg', hh, r⟩
    · omega
    · exact ⟨g', cap', cur, hv, hg', hh, trivial⟩
  have hgne : g' ≠ g := fun e => by subst e; rw [htop] at hgh; cases hgh
  have egg : g' = gg := by injection hv' with h1; injection h1 with h2; injection h2 with h3; exact h3.symm
  subst egg
  have fw : ∀ {q : Nat} {x : Obj}, q ≠ g → W'.heap[q]? = some x → (W'.setCell ⟨g, 0, none⟩ (.slice (some ⟨g', 0, none⟩) (st.bl.length + 1) cap)).heap[q]? = some x := fun {q x} hq hx => (heap_set_other _ hq).trans hx
  have hlen : (st.push kind n).bl.length = st.bl.length + 1 := by simp [St.push]
  have hplt := (Array.getElem?_eq_some_iff.1 hp).1
  have hylt := (Array.getElem?_eq_some_iff.1 hy).1
  have glt := h.lt
  refine ⟨h.Bg, ?_, ?_, h.Bm, ?_, fun j b hb' => ?_, fun i j hi hj e => ?_, fun i j hi hj e => ?_⟩
  · rw [hlen]
    have := heap_set htop (o := 0) (.slice (some ⟨g', 0, none⟩) (st.bl.length + 1) cap)
    simpa [Lay.push, St.push] using this
  · rw [hlen]
    show World.ownsRow _ B 92 1 (.slice (some ⟨g', 0, none⟩) (st.bl.length + 1) cap) (st.bl.length + 1) (ptrs (fun i => if i = st.bl.length then p else L.pb i) (st.bl.length + 1))
    rw [ptrs_push]
    refine ⟨hown.1, ?_⟩
    rcases hown.2 with h0 | ⟨g2, cap2, cur2, hv2, hg2, hh2, r2⟩
    · exact .inl h0
    · refine .inr ⟨g2, cap2, cur2, hv2, hg2, fw (fun e => by subst e; rw [htop] at hh2; cases hh2) hh2, r2⟩
  · obtain ⟨D, es, clock, hb2, r⟩ := h.map
    have hm := old hb2 (by intro cs e; cases e)
    exact ⟨D, es, clock, fw (fun e => by have e2 : L.gm = g := e; rw [e2] at hm; rw [htop] at hm; cases hm) hm, r⟩
  · by_cases hj : j = st.bl.length
    · subst hj
      have hb2 : b = ⟨kind, false, List.replicate n By.zero⟩ := by simpa [St.push] using hb'.symm
      subst hb2
      refine ⟨?_, ?_, ?_, ?_, by simpa using hn⟩
      · show B ≤ if st.bl.length = st.bl.length then p else L.pb st.bl.length
        rw [if_pos rfl]; omega
      · show B ≤ if st.bl.length = st.bl.length then y else L.py st.bl.length
        rw [if_pos rfl]; omega
      · show (World.setCell _ _ _).heap[if st.bl.length = st.bl.length then p else L.pb st.bl.length]? = some (.cells (Bk.cells _ (if st.bl.length = st.bl.length then y else L.py st.bl.length)) 102 (0, 0))
        rw [if_pos rfl, if_pos rfl]
        have := fw (by omega) (new hp0 hp)
        simpa [Bk.cells] using this
      · show (World.setCell _ _ _).heap[if st.bl.length = st.bl.length then y else L.py st.bl.length]? = _
        rw [if_pos rfl]
        exact fw (by omega) (new hy0 hy)
    · have hjl : j < st.bl.length := by
        have := (List.getElem?_eq_some_iff.1 hb').1
        rw [hlen] at this
        omega
      have hb2 : st.bl[j]? = some b := by
        rw [← hb']
        simp [St.push, List.getElem?_append_left hjl]
      obtain ⟨c1, c2, c3, c4, c5⟩ := h.body j b hb2
      have e1 : (L.push st.bl.length g' cap p y).pb j = L.pb j := if_neg hj
      have e2 : (L.push st.bl.length g' cap p y).py j = L.py j := if_neg hj
      rw [e1, e2]
      have m3 := old c3 (by intro cs e; cases e)
      have m4 := old c4 (by intro cs e; cases e)
      exact ⟨c1, c2, fw (ne_of_type m3 htop (by decide)) m3, fw (ne_of_type m4 htop (by decide)) m4, c5⟩
  · rw [hlen] at hi hj
    have lo : ∀ i, i < st.bl.length → L.pb i < w.heap.size := fun i hi => (Array.getElem?_eq_some_iff.1 (h.body i _ (List.getElem?_eq_getElem hi)).2.2.1).1
    simp only [Lay.push] at e
    by_cases h1 : i = st.bl.length
    · by_cases h2 : j = st.bl.length
      · omega
      · rw [if_pos h1, if_neg h2] at e
        have := lo j (by omega)
        omega
    · by_cases h2 : j = st.bl.length
      · rw [if_neg h1, if_pos h2] at e
        have := lo i (by omega)
        omega
      · rw [if_neg h1, if_neg h2] at e
        exact h.injp i j (by omega) (by omega) e
  · rw [hlen] at hi hj
    have lo : ∀ i, i < st.bl.length → L.py i < w.heap.size := fun i hi => (Array.getElem?_eq_some_iff.1 (h.body i _ (List.getElem?_eq_getElem hi)).2.2.2.1).1
    simp only [Lay.push] at e
    by_cases h1 : i = st.bl.length
    · by_cases h2 : j = st.bl.length
      · omega
      · rw [if_pos h1, if_neg h2] at e
        have := lo j (by omega)
        omega
    · by_cases h2 : j = st.bl.length
      · rw [if_neg h1, if_pos h2] at e
        have := lo i (by omega)
        omega
      · rw [if_neg h1, if_neg h2] at e
        exact h.injy i j (by omega) (by omega) e
end
end Go.Proofs.YtejhphnlickjlaaDoor.bl
namespace Go.Proofs.YtejhphnlickjlaaDoor.bl
open Go.RowKit Go.Maps
open M ty
set_option linter.unusedVariables false
theorem cell3 {w : World} (a b c : Obj) {p : Addr} {v : Value} (h : w.cell? p = some v) : (((w.alloc a).alloc b).alloc c).drew.cell? p = some v := by
  have h0 := World.block_lt_of_cell? w _ h
  show (((w.alloc a).alloc b).alloc c).cell? p = _
  rw [World.cell?_alloc_lt _ _ _ (by simp; omega), World.cell?_alloc_lt _ _ _ (by simp; omega), World.cell?_alloc_lt _ _ _ h0, h]
theorem heap3 {w : World} (a b c : Obj) : (((w.alloc a).alloc b).alloc c).drew.heap[w.heap.size + 2]? = some c ∧ (((w.alloc a).alloc b).alloc c).drew.heap[w.heap.size + 1]? = some b ∧ (((w.alloc a).alloc b).alloc c).drew.heap[w.heap.size]? = some a ∧ Below w.heap.size w (((w.alloc a).alloc b).alloc c).drew := by
  have e1 := heap_alloc_new w a
  have e2 := heap_alloc_new (w.alloc a) b
  have e3 := heap_alloc_new ((w.alloc a).alloc b) c
  have s1 : (w.alloc a).heap.size = w.heap.size + 1 := by simp
  have s2 : ((w.alloc a).alloc b).heap.size = w.heap.size + 2 := by simp
  have b1 : Below w.heap.size w (w.alloc a) := (Below.refl _ _).alloc (Nat.le_refl _) _
  have b2 : Below (w.heap.size + 1) (w.alloc a) ((w.alloc a).alloc b) := (Below.refl _ _).alloc (by omega) _
  have b3 : Below (w.heap.size + 2) ((w.alloc a).alloc b) (((w.alloc a).alloc b).alloc c) := (Below.refl _ _).alloc (by omega) _
  rw [s1] at e2
  rw [s2] at e3
  refine ⟨e3, (b3.block _ (by omega)).trans e2, (b3.block _ (by omega)).trans ((b2.block _ (by omega)).trans e1), ((b1.trans (b2.mono (by omega))).trans (b3.mono (by omega))).drew⟩
theorem frozen3 {w : World} (a b c : Obj) {p : Addr} {v : Value} (h : w.cell? p = some v) (hf : w.frozen? p = false) : (((w.alloc a).alloc b).alloc c).drew.frozen? p = false := by
  have h0 := World.block_lt_of_cell? w _ h
  rw [World.frozen?_of_block ((heap3 a b c).2.2.2.block p.block h0), hf]
theorem keepB {w W : World} {p : Addr} {v : Value} (h : w.cell? p = some v) (hf : w.frozen? p = false) (hb : Below w.heap.size w W) : W.cell? p = some v ∧ W.frozen? p = false := by
  have h0 := World.block_lt_of_cell? w _ h
  exact ⟨(World.cell?_of_block (hb.block p.block h0)).trans h, (World.frozen?_of_block (hb.block p.block h0)).trans hf⟩
theorem Sto.far {w : World} {B g N : Nat} {st : St} {L : Lay} (h : Sto w B g N st L) : some g ≠ (Value.slice L.A st.bl.length L.c).ownBlock := fun e => by
  rcases h.row.2 with ⟨hv, _⟩ | ⟨g', cap', cur, hv, hg', hh, r⟩
  · rw [hv] at e; cases e
  · rw [hv] at e
    have e2 : g = g' := Option.some.inj e
    exact ne_of_type hh h.top (by decide) e2.symm
section
variable {w W W' : World} {B g N : Nat} {st : St} {L : Lay}
/-- the store behind a block made -/
def St.make (st : St) (kind : Int) (n : Nat) : St := ⟨st.bl ++ [⟨kind, false, List.replicate n By.zero⟩], wrap64 (st.live + 1), wrap64 (st.sum + n)⟩
theorem Sto.grew {w W W' : World} {B g N : Nat} {st : St} {L : Lay} (h : Sto w B g N st L) (hb : Below w.heap.size w W) (hgrow : W.grownBy W' (Value.slice L.A st.bl.length L.c).ownBlock) : Fr w W' g L st.bl.length := by
  refine (Fr.of_below hb).grown hgrow (fun r e => ?_)
  cases hA : L.A with
  | none => rw [hA] at e; cases e
  | some a =>
    rw [hA] at e
    have e2 : a.block = r := Option.some.inj e
    exact .inr (.inr (.inl ⟨a, hA, e2.symm⟩))
set_option maxRecDepth 20000 in
set_option maxHeartbeats 12800000 in
theorem make_ok (h : Hid (Sto w B g N st L)) (hN : N < 1099511627776) (HB : Hid (st.bl.length ≤ N)) {n : Nat} {k : Int} (hn : ¬ (n : Int) < 0) (hn2 : ¬ 131072 < (n : Int)) (hk : k = 0 ∨ k = 1) (hl : ¬ 65536 ≤ st.live) (hs : ¬ 1048576 < wrap64 (st.sum + n)) :
    Calls Tryd.prog 56 #[.pointer (some ⟨g, 0, none⟩), .int .i64 n, .int .i64 k] w fun e w' => e = .returned (.tuple #[.int .i64 ((st.bl.length : Int) + 1), .int .i64 0]) ∧ (∃ L', Sto w' B g (N + 1) (st.make k n) L') ∧ Fr w w' g L st.bl.length := by
  obtain ⟨c0, c1, c2, c3⟩ := h.out.topc
  obtain ⟨f0, f1, f2, f3⟩ := h.out.topf
  have hmk := run_mk n (by omega)
  obtain ⟨i0, hi0, hz0, hz1, hz2⟩ := info_parts info92z
  have HR := Lib.hid h.out.row
  have hBw : B ≤ w.heap.size := Nat.le_of_lt (Nat.lt_of_le_of_lt h.out.Bg h.out.lt)
  have hg := h.out.lt
  have HF := Lib.hid h.out.far
  have hkey : keyOf Tryd.prog 3 (.int .i64 ((st.bl.length : Int) + 1)) = some (.int .i64 ((st.bl.length : Int) + 1)) := keyOf_int_mk Tryd.underlying3 (wf_in (by omega) (by have := HB.out; omega))
  have hc3 : ∀ a b c, (((w.alloc a).alloc b).alloc c).cell? ⟨g, 0, none⟩ = some (.slice L.A st.bl.length L.c) := fun a b c => cell3 a b c c0
  have hc2 : ∀ a b, ((w.alloc a).alloc b).cell? ⟨g, 0, none⟩ = some (.slice L.A st.bl.length L.c) := fun a b => (keepB c0 f0 (((Below.refl _ _).alloc (Nat.le_refl _) _).alloc (by simp) _)).1
  rcases hk with rfl | rfl
  all_goals
    go_enter Tryd.func56, Tryd.ntmps56
    go_wp2_with fail
    go_region_law ((refine step_append_lies _ (by rfl) _ _ _ (by rfl) B 92 i0 _ 1 8 Tryd.underlying103 hi0 hz0 hz1 hz2 rfl (by omega) (.slice L.A st.bl.length L.c) st.bl.length (ptrs L.pb st.bl.length) (by rfl) (((HR.out.drew.alloc _).alloc _).alloc _) ⟨w.heap.size + 2, 0, none⟩ 1 1 [.pointer (some ⟨w.heap.size + 1, 0, none⟩)] (by rfl) (by rfl) (World.news_of_block (cs := #[.pointer (some ⟨w.heap.size + 1, 0, none⟩)]) (t := 92) (fr := (0, 0)) (heap3 _ _ _).1) (by simp [Value.oneCell']) (by omega) (by have := HB.out; simp only [maxLen]; omega) (by have := HB.out; omega) (by simp; omega) (w.heap.size + 3) (by simp) ?_; intro gg cap w1 hown1 hgrow hat hlt; have z0 := (hgrow.cell_far ⟨g, 0, none⟩ (by simp; omega) HF.out).trans (cell3 _ _ _ c0); have z1 := (hgrow.frozen_far ⟨g, 0, none⟩ (by simp; omega) HF.out).trans (frozen3 _ _ _ c0 f0)))
    all_goals
      have HS := Lib.hid (h.out.push (heap3 _ _ _).2.2.2 (Nat.le_succ _) (Nat.le_refl _) (by omega) (heap3 _ _ _).2.1 (heap3 _ _ _).2.2.1 hgrow hown1)
      have HW := Lib.hid ((h.out.grew (heap3 _ _ _).2.2.2 hgrow).setCell (p := g) (r := 0) h.out.mine_top (.slice (some ⟨gg, 0, none⟩) (st.bl.length + 1) cap))
      generalize w1.setCell ⟨g, 0, none⟩ (.slice (some ⟨gg, 0, none⟩) (st.bl.length + 1) cap) = W2 at *
      clear hown1 hgrow hat hlt z0 z1 c0 c1 c2 c3 f0 f1 f2 f3 hc2 hc3 hmk
      obtain ⟨c0, c1, c2, c3⟩ := HS.out.topc
      obtain ⟨f0, f1, f2, f3⟩ := HS.out.topf
      simp only [St.push, Lay.push, List.length_append, List.length_singleton] at c0 c1 c2 c3
      have H1 := HS.out.setTop (live' := wrap64 (st.live + 1)) (sum' := st.sum) (by have := heap_set HS.out.top (o := 1) (.int .i64 (wrap64 (st.live + 1))); simpa [St.push] using this) (fun q _ hq => heap_set_other _ hq)
      have H2 := Lib.hid ((H1.setTop (live' := wrap64 (st.live + 1)) (sum' := wrap64 (st.sum + n)) (by have := heap_set H1.top (o := 2) (.int .i64 (wrap64 (st.sum + n))); simpa [St.push] using this) (fun q _ hq => heap_set_other _ hq)).drew)
      have HW2 := Lib.hid (((HW.out.setCell (p := g) (r := 1) h.out.mine_top (.int .i64 (wrap64 (st.live + 1)))).setCell (p := g) (r := 2) h.out.mine_top (.int .i64 (wrap64 (st.sum + n)))).drew)
      clear H1
      go_wp2_with fail
      generalize (W2.setCell ⟨g, 1, none⟩ (.int .i64 (wrap64 (st.live + 1)))).setCell ⟨g, 2, none⟩ (.int .i64 (wrap64 (st.sum + n))) = W3 at *
      clear c0 c1 c2 c3 f0 f1 f2 f3
      obtain ⟨c0, c1, c2, c3⟩ := H2.out.topc
      simp only [St.push, Lay.push, List.length_append, List.length_singleton] at c0 c1 c2 c3
      obtain ⟨D, hD⟩ := H2.out.map
      obtain ⟨cc, hrun, hat, hwc⟩ := hD.lookup_int key_law Tryd.underlying104 Tryd.underlying3 (zero_int _) hkey
      have HD := Lib.hid hD
      clear hD hat hwc
      simp only [Lay.push] at hrun
      go_still_tail 11, (by kernel_rfl)
      change wpList _ _ _ _ _ W3.drew
      go_wp2_with (first
        | (at_mapUpdate; refine wpList_mapUpdate_own _ rfl _ _ _ 104 rfl 3 3 key_law Tryd.underlying104 _ L.gm N D rfl HD.out (by simp only [maxLen]; omega) _ _ _ rfl rfl hkey _ [] (plainElem_int Tryd.underlying3 (wrap_i64_wf _)) ?_; intro w4 hown4 hgrow4; have H4 := Lib.hid (H2.out.setMap hown4 hgrow4); have HW4 := Lib.hid (HW2.out.grown hgrow4 (fun r e => by have := Option.some.inj e; subst this; exact h.out.mine_map)); clear hown4 hgrow4 c0 c1 c2 c3; have ⟨c0, c1, c2, c3⟩ := H4.out.topc; simp only [St.push, Lay.push, List.length_append, List.length_singleton] at c0 c1 c2 c3))
      go_ret2
      exact ⟨rfl, ⟨_, H4.out⟩, HW4.out⟩
end
end Go.Proofs.YtejhphnlickjlaaDoor.bl
