/-
  Closures that each calls: what they may touch. No program's code in sight.
-/
import Derived.Test.YthgbmhpfblgjcaaGreatDoorFlO
import Derived.Deep.RegionLaw
import Derived.Test.YthgbmhpfblgjcaaGreatDoorReg
import Derived.Laws.ResultCell
import Derived.Shelf.Abstract
set_option linter.unusedVariables false
set_option linter.unusedSimpArgs false
namespace Go.Proofs.YthgbmhpfblgjcaaGreatDoor.fl
open Go.RowKit Go.Shelf
open M T ty
set_option linter.unusedVariables false
def ptrV (b : Nat) : Value := .pointer (some ⟨b, 0, none⟩)
def ptrs (bs : List Nat) : List Value := bs.map ptrV
/-- a function's cells in a block of its own -/
def FBox (W : World) (g : Nat) (f : Fn) (L : FLay) : Prop := W.heap[g]? = some (.cells #[.string f.name, .int .i64 f.params, .int .i64 f.regs, .slice L.SA f.slots.length L.sc, .slice L.BA f.bl.length L.bc] 25 (0, 0))
theorem FBox.cells {W : World} {g : Nat} {f : Fn} {L : FLay} (h : FBox W g f L) :
    W.cell? ⟨g, 0, none⟩ = some (.string f.name) ∧ W.cell? ⟨g, 1, none⟩ = some (.int .i64 f.params) ∧ W.cell? ⟨g, 2, none⟩ = some (.int .i64 f.regs) ∧ W.cell? ⟨g, 3, none⟩ = some (.slice L.SA f.slots.length L.sc) ∧ W.cell? ⟨g, 4, none⟩ = some (.slice L.BA f.bl.length L.bc) :=
  ⟨Go.Joins.cell_of_block h 0, Go.Joins.cell_of_block h 1, Go.Joins.cell_of_block h 2, Go.Joins.cell_of_block h 3, Go.Joins.cell_of_block h 4⟩
/-- lives as they are made -/
structure EnvN (w W : World) (lb gb : Nat) (f : Fn) (L : FLay) (G : GLay) (rc : List Bool) (r : Nat) (v : Value) (bs : List Nat) : Prop where
  below : Below w.heap.size w W
  wlt : w.heap.size < gb
  gr : GrAt W lb gb f L G rc
  blk : W.heap[lb]? = some (.cells #[.pointer (some ⟨gb, 0, none⟩), v] 83 (0, 0))
  fbox : FBox W w.heap.size f L
  own : W.ownsRow (lb + 1) 64 1 v bs.length (ptrs bs)
  sets : ∀ b ∈ bs, SetAt W b 0 r ∧ lb < b ∧ v.ownBlock ≠ some b
  nd : bs.Nodup
section
variable {w W W' : World} {lb gb : Nat} {f : Fn} {L : FLay} {G : GLay} {rc : List Bool} {r : Nat} {v : Value} {bs : List Nat}
theorem EnvN.lt (h : EnvN w W lb gb f L G rc r v bs) : lb < W.heap.size := (Array.getElem?_eq_some_iff.1 h.blk).1
theorem EnvN.after (h : EnvN w W lb gb f L G rc r v bs) (hb : Below W.heap.size W W') : EnvN w W' lb gb f L G rc r v bs :=
  ⟨h.below.trans (hb.mono h.below.size), h.wlt, h.gr.below (hb.mono (Nat.le_of_lt h.lt)), (hb.block _ h.lt).trans h.blk, (hb.block _ (Array.getElem?_eq_some_iff.1 h.fbox).1).trans h.fbox, own_below_size h.own hb,
    fun b hbm => ⟨(hb.block _ (Array.getElem?_eq_some_iff.1 (h.sets b hbm).1).1).trans (h.sets b hbm).1, (h.sets b hbm).2⟩, h.nd⟩
theorem EnvN.drew9 (h : EnvN w W lb gb f L G rc r v bs) : EnvN w W.drew lb gb f L G rc r v bs := h.after ((Below.refl _ _).drew)
theorem EnvN.step (h : EnvN w W lb gb f L G rc r v bs) {w3 : World} {v' : Value} (o : Obj)
    (ho : w3.ownsRow (lb + 1) 64 1 v' (bs ++ [W.heap.size]).length (ptrs (bs ++ [W.heap.size]))) (hg : ((W.alloc (.cells (setCells 0 (r : Int)).toArray 69)).alloc o).grownBy w3 v.ownBlock) (hv : v'.ownBlock = v.ownBlock ∨ v'.ownBlock = some ((W.alloc (.cells (setCells 0 (r : Int)).toArray 69)).alloc o).heap.size) :
    EnvN w (w3.setCell ⟨lb, 1, none⟩ v') lb gb f L G rc r v' (bs ++ [W.heap.size]) := by
  have hal : Below W.heap.size W ((W.alloc (.cells (setCells 0 (r : Int)).toArray 69)).alloc o) := ((Below.refl _ _).alloc (Nat.le_refl _) _).alloc (by simp) _
  have h1 := h.after hal
  have hnew : SetAt ((W.alloc (.cells (setCells 0 (r : Int)).toArray 69)).alloc o) W.heap.size 0 r := (heap_alloc_lt _ _ (by simp)).trans (heap_alloc_new W _)
  have hsz : ((W.alloc (.cells (setCells 0 (r : Int)).toArray 69)).alloc o).heap.size = W.heap.size + 2 := by simp
  have hlb := h.lt
  have hbl : ∀ k, v.ownBlock = some k → lb + 1 ≤ k ∧ k < W.heap.size := fun k hk => h.own.lt k hk
  generalize ((W.alloc (.cells (setCells 0 (r : Int)).toArray 69)).alloc o) = W2 at *
  have hgl := h.gr.lt
  have hwl := h.wlt
  have key : ∀ g, g < W2.heap.size → g ≠ lb → some g ≠ v.ownBlock → (w3.setCell ⟨lb, 1, none⟩ v').heap[g]? = W2.heap[g]? := fun g h1 h2 h3 => (heap_other v' h2).trans (hg.block g h1 h3)
  have hsm : ∀ g, g ≤ lb → some g ≠ v.ownBlock := fun g hg' e => by have := (hbl g e.symm).1; omega
  have hkeep : Below lb W2 (w3.setCell ⟨lb, 1, none⟩ v') := by
    refine ⟨hg.os, hg.tape, hg.output, by rw [World.size_setCell]; exact hg.size, fun k hk => key k (by omega) (by omega) (hsm k (by omega))⟩
  refine ⟨h1.below.trans (hkeep.mono (by omega)), hwl, h1.gr.below hkeep, ?_, (hkeep.block w.heap.size (by omega)).trans h1.fbox, ?_, fun b hb => ?_, ?_⟩
  · rw [heap_set (o := 1) ((hg.block lb (by omega) (hsm lb (Nat.le_refl _))).trans h1.blk) v']
    rfl
  · exact ho.kept (grown_setCell w3 ⟨lb, 1, none⟩ v') (by
      cases hk : v'.ownBlock with
      | none => exact .inl rfl
      | some k => exact .inr (fun e => by have := (ho.lt k hk).1; have := Option.some.inj e; simp at this; omega))
  · have hv2 : ∀ g, g < W2.heap.size → v.ownBlock ≠ some g → v'.ownBlock ≠ some g := fun g hg' hne e => by
      rcases hv with hv | hv
      · rw [hv] at e; exact hne e
      · rw [hv] at e
        have := Option.some.inj e
        omega
    rcases List.mem_append.1 hb with hb | hb
    · obtain ⟨s1, s2, s3⟩ := h1.sets b hb
      have hbs := (Array.getElem?_eq_some_iff.1 s1).1
      exact ⟨(key b hbs (by omega) (fun e => s3 e.symm)).trans s1, s2, hv2 b hbs s3⟩
    · rw [List.mem_singleton] at hb
      subst hb
      have hne : v.ownBlock ≠ some W.heap.size := fun e => by have := (hbl _ e).2; omega
      exact ⟨(key W.heap.size (by omega) (by omega) (fun e => hne e.symm)).trans hnew, hlb, hv2 _ (by omega) hne⟩
  · rw [List.nodup_append]
    refine ⟨h.nd, by simp, fun a ha b hb e => ?_⟩
    rw [List.mem_singleton] at hb
    subst hb
    subst e
    have := (Array.getElem?_eq_some_iff.1 (h.sets _ ha).1).1
    omega
/-- the lives made -/
theorem EnvN.lives (h : EnvN w W lb gb f L G rc r v bs) (hlen : bs.length = f.bl.length) (h0 : 0 < f.bl.length) (hreg : f.regs = (r : Int)) (h4 : r ≤ 4096) : ∃ I : ILay, v = .slice (some ⟨I.ib, 0, none⟩) f.bl.length I.ic ∧ LvAt W lb gb f L G rc I r (List.replicate f.bl.length 0) := by
  have ho := h.own
  rw [hlen] at ho
  obtain ⟨A, c, rfl, -, -⟩ := own_form ho
  obtain ⟨y, rfl, hy0, hy1, hyc⟩ := own_at ho h0
  have hget : ∀ j, j < f.bl.length → ∃ b, bs[j]? = some b ∧ bs.getD j 0 = b ∧ b ∈ bs := fun j hj => by
    have : j < bs.length := by omega
    exact ⟨bs[j], List.getElem?_eq_getElem this, by simp [List.getD_eq_getElem?_getD, List.getElem?_eq_getElem this], List.getElem_mem this⟩
  refine ⟨⟨y, c, fun j => bs.getD j 0⟩, rfl, h.gr, h.blk, by show lb < y; omega, hy1, fun j hj => ?_, by simp, fun j m hm => ?_, fun j hj => ?_, fun i j hi hj e => ?_, zeros_ok _, hreg, h4⟩
  · obtain ⟨b, h1, h2, -⟩ := hget j hj
    have := hyc j (ptrV b) (by simp [ptrs, h1])
    simp only [h2]
    exact this
  · obtain ⟨hj, hm2⟩ := List.getElem?_eq_some_iff.1 hm
    rw [List.length_replicate] at hj
    rw [List.getElem_replicate] at hm2
    subst hm2
    obtain ⟨b, -, h2, h3⟩ := hget j hj
    simp only [h2]
    exact (h.sets b h3).1
  · obtain ⟨b, -, h2, h3⟩ := hget j hj
    simp only [h2]
    have := h.sets b h3
    exact ⟨this.2.1, fun e => this.2.2 (by simp [Value.ownBlock, e])⟩
  · obtain ⟨b, h1, h2, -⟩ := hget i hi
    obtain ⟨b', h1', h2', -⟩ := hget j hj
    simp only [h2, h2'] at e
    subst e
    exact (List.getElem?_inj (by omega) h.nd).1 (h1.trans h1'.symm)
end
theorem zc69 (R : Int) : Tryz.zeroCells69.setIfInBounds 64 (.int .i64 R) = (setCells 0 R).toArray := by kernel_rfl
theorem grown_undrew {W w' : World} {row : Option Nat} (h : W.drew.grownBy w' row) : W.grownBy w' row := ⟨h.os, h.tape, h.output, h.size, h.block⟩
theorem info64 : (Tryz.prog.info? 64).map (fun i => (i.zero, i.size, i.bytes)) = some (some (.pointer none), 1, 8) := by kernel_rfl
theorem run_build69 (R : Int) (W : World) : (Instr.build 69 #[(1, .int .i64 R)]).run Tryz.prog W = .ok (.agg (setCells 0 R).toArray) W := run_build W 69 #[(1, .int .i64 R)] _ (built69 R)
theorem LvAt.set {W W' : World} {lb gb : Nat} {f : Fn} {L : FLay} {G : GLay} {rc : List Bool} {I : ILay} {r : Nat} {s : Ins} (h : LvAt W lb gb f L G rc I r s) {b : Nat} (hb : b < f.bl.length) {m : Nat} (hg : W.grownBy W' (some (I.sb b))) (hs : SetAt W' (I.sb b) m r) (hm : m < 2 ^ r) : LvAt W' lb gb f L G rc I r (s.set b m) := by
  obtain ⟨g1, g2⟩ := h.sgt b hb
  have hlt := h.lt
  have hbel : Below lb W W' := ⟨hg.os, hg.tape, hg.output, hg.size, fun k hk => hg.block k (by omega) (fun e => by have := Option.some.inj e; omega)⟩
  refine ⟨h.gr.below hbel, (hg.block lb hlt (fun e => by have := Option.some.inj e; omega)).trans h.blk, h.ilo, Nat.lt_of_lt_of_le h.ihi hg.size, fun j hj => (cell_of_heap (p := ⟨I.ib, j, none⟩) (hg.block I.ib h.ihi (fun e => g2 (Option.some.inj e).symm))).trans (h.row j hj), by simpa using h.len, fun j m' hj => ?_, h.sgt, h.inj, set_ok h.ok b hm, h.reg, h.r4⟩
  rw [List.getElem?_set] at hj
  by_cases e : b = j
  · subst e
    rw [if_pos rfl, if_pos (by rw [h.len]; exact hb)] at hj
    cases hj
    exact hs
  · rw [if_neg e] at hj
    have h1 := h.sets j m' hj
    have hjl : j < f.bl.length := by rw [← h.len]; exact (List.getElem?_eq_some_iff.1 hj).1
    exact (hg.block _ (Array.getElem?_eq_some_iff.1 h1).1 (fun e' => e (h.inj b j hb hjl (Option.some.inj e').symm))).trans h1
/-- the variables of found stand -/
structure EnvL (w W : World) (lb gb : Nat) (f : Fn) (L : FLay) (G : GLay) (rc : List Bool) (I : ILay) (r : Nat) (s : Ins) : Prop where
  below : Below w.heap.size w W
  wlt : w.heap.size < gb
  lv : LvAt W lb gb f L G rc I r s
  fbox : FBox W w.heap.size f L
  tabs : Tabs W
section
variable {w W W' : World} {lb gb : Nat} {f : Fn} {L : FLay} {G : GLay} {rc : List Bool} {I : ILay} {r : Nat} {s : Ins}
theorem EnvL.after (h : EnvL w W lb gb f L G rc I r s) (hb : Below W.heap.size W W') : EnvL w W' lb gb f L G rc I r s :=
  ⟨h.below.trans (hb.mono h.below.size), h.wlt, h.lv.after hb, (hb.block _ (Array.getElem?_eq_some_iff.1 h.fbox).1).trans h.fbox, h.tabs.after hb⟩
theorem EnvL.set (h : EnvL w W lb gb f L G rc I r s) (h2 : 2 ≤ w.heap.size) {b : Nat} (hb : b < f.bl.length) {m : Nat} (hg : W.grownBy W' (some (I.sb b))) (hs : SetAt W' (I.sb b) m r) (hm : m < 2 ^ r) : EnvL w W' lb gb f L G rc I r (s.set b m) := by
  have hs1 := (h.lv.sgt b hb).1
  have h1 := h.lv.gr.lt
  have h3 := h.wlt
  exact ⟨h.below.grown hg h.below.size (fun k hk => by have := Option.some.inj hk; omega), h3, h.lv.set hb hg hs hm, (hg.block _ (Array.getElem?_eq_some_iff.1 h.fbox).1 (fun e => by have := Option.some.inj e; omega)).trans h.fbox, h.tabs.grown hg (by omega)⟩
end
theorem visit_true {bl : List Bl} {rc : List Bool} {sec k : Nat} {q : Ins × Bool} {x : Bl} (hx : bl[k]? = some x) (hr : rc[k]? = some true) :
    visit (tos bl) bl rc sec q k = (q.1.set k (inAt q.1 k ||| point (once (exitTo x.ex)) x q.1 0 sec), q.2 || decide (inAt q.1 k ||| point (once (exitTo x.ex)) x q.1 0 sec ≠ inAt q.1 k)) := by
  unfold visit
  rw [hx, tos_get hx]
  simp only
  rw [if_pos hr]
theorem visit_false {bl : List Bl} {rc : List Bool} {sec k : Nat} {q : Ins × Bool} (hr : rc[k]? = some false) : visit (tos bl) bl rc sec q k = q := by
  unfold visit
  split
  · rw [if_neg (by rw [hr]; simp)]
  · rfl
theorem EnvL.reads {w W : World} {lb gb : Nat} {f : Fn} {L : FLay} {G : GLay} {rc : List Bool} {I : ILay} {r k : Nat} {s : Ins} {b : Bool} (h : EnvL w W lb gb f L G rc I r s) (hk : k < f.bl.length) (hr : rc[k]? = some b) :
    W.cell? ⟨lb, 0, none⟩ = some (.pointer (some ⟨gb, 0, none⟩)) ∧ W.cell? ⟨gb, 6, none⟩ = some (.slice (some ⟨G.rb, 0, none⟩) f.bl.length f.bl.length) ∧ W.cell? ⟨G.rb, k, none⟩ = some (.bool b) ∧ W.cell? ⟨lb, 1, none⟩ = some (.slice (some ⟨I.ib, 0, none⟩) f.bl.length I.ic) ∧ W.cell? ⟨I.ib, k, none⟩ = some (.pointer (some ⟨I.sb k, 0, none⟩)) := by
  obtain ⟨d0, d1, d2, d4, d5, d6⟩ := h.lv.cells
  exact ⟨d0, d6, h.lv.gr.rch.cell hr, d1, h.lv.row k hk⟩
end Go.Proofs.YthgbmhpfblgjcaaGreatDoor.fl
namespace Go.Proofs.YthgbmhpfblgjcaaGreatDoor.fl
open Go.RowKit Go.Shelf
open M T ty
set_option linter.unusedVariables false
set_option maxRecDepth 20000 in
set_option maxHeartbeats 8000000 in
theorem found_22 (f : Fn) (L : FLay) (w : World) (r : Nat) (hr : f.regs = (r : Int)) (hfa : FnAt w w.heap.size f L) (hT : Tabs w) (hF : Fits f) (hok : fnB 4611686018427387904 f = true) :
    Calls Tryz.prog 22 #[fnV f L] w fun e w' => ∃ lb gb G rc I s, e = .returned (.tuple #[.pointer (some ⟨lb, 0, none⟩), .int .i64 0]) ∧ LvAt w' lb gb f L G rc I r s ∧ Found (tos f.bl) (-1) 0 rc ∧ Lives (tos f.bl) f.bl rc s ∧ w.heap.size < gb ∧ Below w.heap.size w w' := by
  have hgood := good_of hok
  have hal : Below w.heap.size w (w.alloc (.cells #[.string f.name, .int .i64 f.params, .int .i64 f.regs, .slice L.SA f.slots.length L.sc, .slice L.BA f.bl.length L.bc] 25)) := (Below.refl _ _).alloc (Nat.le_refl _) _
  have HDR := Lib.hid (drawn_51 f L _ (hfa.after hal) (hT.keys.below hal) (by have := hF.name; simp only [maxLen]; omega) hF.fit hok)
  have HV : Hid (FBox (w.alloc (.cells #[.string f.name, .int .i64 f.params, .int .i64 f.regs, .slice L.SA f.slots.length L.sc, .slice L.BA f.bl.length L.bc] 25)) w.heap.size f L) := Lib.hid (heap_alloc_new w _)
  have HAL := Lib.hid hal
  have HG := Lib.hid hgood
  have HTT := Lib.hid (hT.after hal)
  have HT0 := Lib.hid hT
  have hr4 : r ≤ 4096 := by have := hgood.r; omega
  have hbl4 : (f.bl.length : Int) ≤ 4096 := by have := hgood.b4; omega
  have HREG := Lib.hid hr
  clear hgood hfa hT hok hal hr
  obtain ⟨SA, sc, BA, bc, OA, oc, AA, ac⟩ := L
  unfold fnV at HDR ⊢
  simp only at HDR HAL HV HTT ⊢
  have hw1 : (w.alloc (.cells #[.string f.name, .int .i64 f.params, .int .i64 f.regs, .slice SA f.slots.length sc, .slice BA f.bl.length bc] 25)).heap.size = w.heap.size + 1 := World.size_alloc _ _
  go_enter Tryz.func22, Tryz.ntmps22
  go_wp2_with (go_at_call 51; refine HDR.out.mono ?_; rintro e w1 ⟨gb, G, rc, rfl, hgr, hfd, hgb, hb1⟩; have hv1 : FBox w1 w.heap.size f ⟨SA, sc, BA, bc, OA, oc, AA, ac⟩ := (hb1.block _ (Array.getElem?_eq_some_iff.1 HV.out).1).trans HV.out; obtain ⟨c0, c1, c2, c3, c4⟩ := hv1.cells; have hgl := hgr.lt; have hws := hb1.size; have hlt1 : w.heap.size < w1.heap.size := (by omega); have HGR := Lib.hid hgr; have HFD := Lib.hid hfd; have HV1 := Lib.hid hv1; have HB1 := Lib.hid (HAL.out.trans (hb1.mono (by omega))); have HT1 := Lib.hid (HTT.out.after hb1); clear hgr hfd hv1 hb1)

  have HE0 : Hid (EnvN w (w1.alloc (.cells #[.pointer (some ⟨gb, 0, none⟩), .slice none 0 0] 83)) w1.heap.size gb f ⟨SA, sc, BA, bc, OA, oc, AA, ac⟩ G rc r (.slice none 0 0) []) := Lib.hid
    ⟨HB1.out.alloc HB1.out.size _, by omega, HGR.out.below ((Below.refl _ _).alloc (Nat.le_refl _) _), heap_alloc_new _ _, (heap_alloc_lt _ _ hlt1).trans HV1.out, ⟨rfl, .inl ⟨rfl, rfl⟩⟩, fun b hb => (by cases hb), List.nodup_nil⟩
  generalize hlbe : w1.heap.size = lb at *
  have hb69 := run_build69 (r : Int)
  clear c0 c1 c2 c3 c4 hws

  go_loopg [24] f.bl.length (fun N t wr => ∃ i v bs, i ≤ f.bl.length ∧ N = f.bl.length - i ∧ t = .int .i64 i ∧ EnvN w wr lb gb f ⟨SA, sc, BA, bc, OA, oc, AA, ac⟩ G rc r v bs ∧ bs.length = i)
  case atStart => exact ⟨0, _, [], by omega, rfl, rfl, HE0.out, rfl⟩
  case round =>
    obtain ⟨i, v, bs, hi, rfl, rfl, he, rfl⟩ := hrel
    have H := Lib.hid he
    clear HE0
    by_cases hlti : bs.length < f.bl.length
    · have hltI : (bs.length : Int) < (f.bl.length : Int) := by omega
      obtain ⟨c0, c1, c2, c3, c4⟩ := he.fbox.cells
      rw [HREG.out] at c2
      have d1 := Go.Joins.cell_of_block he.blk 1
      have f1 := Go.Joins.unfrozen_of_block he.blk 1
      have hlbw := he.lt
      have hw0 : w.heap.size < wr.heap.size := by omega
      have hcl : ∀ a, (wr.alloc a).cell? ⟨lb, 1, none⟩ = some v := fun a => (cell_of_heap (p := ⟨lb, 1, none⟩) (heap_alloc_lt wr a hlbw)).trans d1
      have hcl2 : ∀ a b, ((wr.alloc a).alloc b).cell? ⟨lb, 1, none⟩ = some v := fun a b => (cell_of_heap (p := ⟨lb, 1, none⟩) (heap_alloc_lt _ b (by simp; omega))).trans (hcl a)
      have hx1 : bs.length + 1 ≤ maxLen := by simp only [maxLen]; omega
      have hx2 : (bs.length + 1) * 8 ≤ 140737488355328 := by omega
      obtain ⟨i1, hj, hy0, hy1, hy2⟩ := info_parts info64
      obtain ⟨A0, k0, rfl, hk1, hk2⟩ := own_form he.own
      have HO : Hid (((wr.drew.alloc (.cells (Tryz.zeroCells69.setIfInBounds 64 (.int .i64 (r : Int))) 69)).alloc (.cells #[ptrV wr.heap.size] 64)).ownsRow (lb + 1) 64 1 (.slice A0 bs.length k0) bs.length (ptrs bs)) := Lib.hid ((he.own.drew.alloc _).alloc _)
      have HRD : Hid (Rd ((wr.drew.alloc (.cells (Tryz.zeroCells69.setIfInBounds 64 (.int .i64 (r : Int))) 69)).alloc (.cells #[ptrV wr.heap.size] 64)) (wr.heap.size + 2) (some ⟨wr.heap.size + 1, 0, none⟩) [ptrV wr.heap.size]) := Lib.hid (fun _ => ⟨_, rfl, by simp, fun j u hu => by
        rcases j with _ | j
        · have : u = ptrV wr.heap.size := by simpa using hu.symm
          rw [this]
          have h9 := heap_alloc_new (wr.drew.alloc (.cells (Tryz.zeroCells69.setIfInBounds 64 (.int .i64 (r : Int))) 69)) (.cells #[ptrV wr.heap.size] 64)
          rw [World.size_alloc] at h9
          exact Go.Joins.cell_of_block h9 0
        · simp at hu⟩)
      have HBLK : Hid (((wr.drew.alloc (.cells (Tryz.zeroCells69.setIfInBounds 64 (.int .i64 (r : Int))) 69)).alloc (.cells #[ptrV wr.heap.size] 64)).heap[lb]? = some (.cells #[.pointer (some ⟨gb, 0, none⟩), .slice A0 bs.length k0] 83 (0, 0))) := Lib.hid ((heap_alloc_lt _ _ (by simp; omega)).trans ((heap_alloc_lt wr.drew _ hlbw).trans he.blk))
      have HONE : Hid (∀ u ∈ [ptrV wr.heap.size], u.oneCell' = true) := Lib.hid (fun u hu => by have : u = ptrV wr.heap.size := (by simpa using hu); rw [this]; rfl)
      have HBL := Lib.hid (fun k (hk : (Value.slice A0 bs.length k0).ownBlock = some k) => he.own.lt k hk)
      clear he
      go_wp2_with fail
      go_region_law (refine step_append_rd _ rfl (.tmp 30) (.tmp 35) 81 rfl (lb + 1) 64 i1 _ 1 8 Tryz.underlying81 hj hy0 hy1 hy2 rfl (by omega) (.slice A0 bs.length k0) bs.length (ptrs bs) (by simp [Act.eval, Act.put]) (by exact HO.out) _ (some ⟨wr.heap.size + 1, 0, none⟩) 1 1 [ptrV wr.heap.size] (by simp [Act.eval, Act.put]) rfl (by exact HRD.out) (by exact HONE.out) hx1 hx2 (by simp; omega) ?_; intro v6 w6 ho6 hg6 hv6; obtain ⟨A6, c6, rfl, -, -⟩ := own_form ho6; have e7 := (hg6.block lb (by simp; omega) (fun e => by have := (HBL.out lb e.symm).1; omega)).trans HBLK.out; have c7 := Go.Joins.cell_of_block e7 1; have f7 := Go.Joins.unfrozen_of_block e7 1; have HO6 := Lib.hid ho6; have HG6 := Lib.hid hg6; have HV6 := Lib.hid hv6; clear e7 ho6 hg6 hv6)
      all_goals
        have hl9 : (bs ++ [wr.heap.size]).length = bs.length + 1 := by simp
        rw [zc69] at HG6 HV6
        have HN := Lib.hid (EnvN.step H.out (.cells #[ptrV wr.heap.size] 64) (v' := .slice A6 (bs.length + 1) c6) (by rw [hl9, show ptrs (bs ++ [wr.heap.size]) = ptrs bs ++ [ptrV wr.heap.size] by simp [ptrs]]; exact HO6.out) (grown_undrew HG6.out) HV6.out)
        go_wp2_with fail
        go_roundg (f.bl.length - (bs.length + 1))
        case measure => omega
        case rel => exact ⟨bs.length + 1, _, _, by omega, rfl, by go_num, HN.out, hl9⟩
    · have hbl : bs.length = f.bl.length := by omega
      obtain ⟨I, rfl, hlv⟩ := he.lives hbl HG.out.b1 HREG.out hr4
      have HL0 : Hid (EnvL w wr lb gb f ⟨SA, sc, BA, bc, OA, oc, AA, ac⟩ G rc I r (List.replicate f.bl.length 0)) := Lib.hid ⟨he.below, he.wlt, hlv, he.fbox, HT0.out.keep (fun g hg => he.below.block g (by have := HT0.out.two; omega)) he.below.size⟩
      have h2w := HT0.out.two
      clear he hlv H hb69 HT1 HV1 HB1 HGR hbl
      go_wp2_with fail
      go_loopg [7] (2 * left (2 ^ r) (List.replicate f.bl.length 0) + 1) (fun N t wr => ∃ (k : Nat) (g : Bool), N = 2 * left (2 ^ r) (passes (tos f.bl) f.bl rc k (List.replicate f.bl.length 0)) + (if g then 1 else 0) ∧ t = .bool g ∧ EnvL w wr lb gb f ⟨SA, sc, BA, bc, OA, oc, AA, ac⟩ G rc I r (passes (tos f.bl) f.bl rc k (List.replicate f.bl.length 0)) ∧
        (g = false → pass (tos f.bl) f.bl rc (passes (tos f.bl) f.bl rc k (List.replicate f.bl.length 0)) = (passes (tos f.bl) f.bl rc k (List.replicate f.bl.length 0), false)))
      case atStart => exact ⟨0, true, rfl, rfl, HL0.out, fun h => by cases h⟩
      case round =>
        obtain ⟨k9, g, rfl, rfl, hl, hfin⟩ := hrel
        clear HL0
        have HL := Lib.hid hl
        have hok : VisOk r f.bl.length (passes (tos f.bl) f.bl rc k9 (List.replicate f.bl.length 0), false) (pass (tos f.bl) f.bl rc (passes (tos f.bl) f.bl rc k9 (List.replicate f.bl.length 0))) := pass_ok (by have h9 := HG.out.blOk; rw [HREG.out, Int.toNat_natCast] at h9; exact h9) hl.lv.ok hl.lv.len
        generalize hs : passes (tos f.bl) f.bl rc k9 (List.replicate f.bl.length 0) = s at *
        cases g with
        | false =>
          have HFIN := Lib.hid (hfin rfl)
          have HS := Lib.hid hs
          clear hl hfin hok hs
          go_wp2_with fail
          go_ret2
          exact ⟨lb, gb, G, rc, I, s, rfl, HL.out.lv, HFD.out, ⟨k9, HS.out.symm, HFIN.out⟩, by omega, HL.out.below⟩
        | true =>
          have HSC := Lib.hid (second_52 lb gb f ⟨SA, sc, BA, bc, OA, oc, AA, ac⟩ G rc I r s wr hl.lv HG.out)
          have HOK := Lib.hid hok
          have HPS : Hid (pass (tos f.bl) f.bl rc s = visits (tos f.bl) f.bl rc (second f.bl rc s) (s, false) f.bl.length) := Lib.hid rfl
          have HSL := Lib.hid (second_lt (bl := f.bl) (reached := rc) (s := s) hl.lv.ok)
          have HS := Lib.hid hs
          clear hl hfin hok hs
          generalize second f.bl rc s = sec at *
          go_wp2_with (go_at_call 52; refine HSC.out.mono ?_; rintro e w3 ⟨rfl, hb3, hs3⟩; have h3 := HL.out.after hb3; have H3 := Lib.hid h3; have HS3 := Lib.hid hs3; obtain ⟨c0, c1, c2, c3, c4⟩ := h3.fbox.cells; clear hb3 hs3 h3)
          have HSB := Lib.hid (fun j (hj : j < f.bl.length) => HL.out.lv.slt hj)
          generalize hcb : wr.heap.size = cb at *
          go_loopg [9, 7] (0 + f.bl.length) (fun N t u wr => ∃ (j : Nat) (e : Int) (q : Ins × Bool), j ≤ f.bl.length ∧ N = 0 + j ∧ t = .int .i64 e ∧ e = (j : Int) - 1 ∧ u = .bool q.2 ∧ EnvL w wr lb gb f ⟨SA, sc, BA, bc, OA, oc, AA, ac⟩ G rc I r q.1 ∧ SetAt wr cb sec r ∧ visits (tos f.bl) f.bl rc sec q j = pass (tos f.bl) f.bl rc s)
          case atStart => exact ⟨f.bl.length, _, (s, false), by omega, rfl, rfl, by go_num, rfl, H3.out, HS3.out, HPS.out.symm⟩
          case round =>
            obtain ⟨j, e, q, hj, rfl, rfl, he, rfl, h4, hs4, hv4⟩ := hrel
            clear c0 c1 c2 c3 c4
            have H4 := Lib.hid h4
            have HS4 := Lib.hid hs4
            rcases j with _ | k
            · have hneg : ¬ (0 : Int) ≤ e := by omega
              rcases q with ⟨q1, gq⟩
              have HV4 : Hid ((q1, gq) = pass (tos f.bl) f.bl rc s) := Lib.hid hv4
              have hok := HOK.out
              rw [← HV4.out] at hok
              have hpp : passes (tos f.bl) f.bl rc (k9 + 1) (List.replicate f.bl.length 0) = q1 := by rw [passes, HS.out, ← HV4.out]
              have HOK2 := Lib.hid hok
              have HPP := Lib.hid hpp
              clear h4 hs4 hv4 he hok hpp
              cases gq with
              | true =>
                go_wp2_with fail
                go_roundg (2 * left (2 ^ r) q1 + 1)
                case measure =>
                  rcases HOK2.out.lt rfl with h9 | h9
                  · cases h9
                  · simp only at h9; simp; omega
                case rel => exact ⟨k9 + 1, true, by rw [HPP.out]; rfl, rfl, by rw [HPP.out]; exact H4.out, fun h => by cases h⟩
              | false =>
                have h8 := pass_same (s := s) (by rw [← HV4.out])
                have hq1 : q1 = s := by have := HV4.out; rw [h8] at this; exact (Prod.mk.inj this).1
                have HQ := Lib.hid hq1
                have H8 := Lib.hid h8
                clear h8 hq1
                go_wp2_with fail
                go_roundg (2 * left (2 ^ r) q1)
                case measure => rw [HQ.out]; simp
                case rel => exact ⟨k9 + 1, false, by rw [HPP.out]; rfl, rfl, by rw [HPP.out]; exact H4.out, fun _ => by rw [HPP.out, HQ.out]; exact H8.out⟩
            · have he2 : e = (k : Int) := by omega
              clear he
              subst he2
              have hkl : k < f.bl.length := by omega
              have hkI : (k : Int) < (f.bl.length : Int) := by omega
              obtain ⟨d0, d1, d2, d4, d5, d6⟩ := h4.lv.cells
              have hrl : rc.length = f.bl.length := h4.lv.gr.rlen
              have hrk : rc[k]? = some rc[k] := List.getElem?_eq_getElem (by omega)
              have d7 := h4.lv.gr.rch.cell hrk
              have d8 := h4.lv.row k hkl
              rw [visits_succ] at hv4
              cases hrck : rc[k] with
              | false =>
                rw [hrck] at hrk d7
                rw [visit_false hrk] at hv4
                have HV4 := Lib.hid hv4
                have HRK := Lib.hid hrk
                clear h4 hs4 hv4 hrck hrk
                go_wp2_with fail
                refine region_class (C := fun W => EnvL w W lb gb f ⟨SA, sc, BA, bc, OA, oc, AA, ac⟩ G rc I r q.1 ∧ SetAt W cb sec r) (by kernel_rfl) (by kernel_rfl) ⟨H4.out.after ((Below.refl _ _).drew), HS4.out⟩ ?_
                repeat (first | (refine q_skip (a' := ?_) (by rfl) ?_ ?_; rotate_left; (focus (simp only [Act.put, List.setIfInBounds_toArray, List.set_cons_zero, List.set_cons_succ]; with_reducible rfl))) | (refine q_take (v := ?_) (a' := ?_) (by rfl) (fun W hW => ?_) ?_ ?_; rotate_left 2; (focus (obtain ⟨c0, c1, c2, c3, c4⟩ := hW.1.reads hkl HRK.out; unfold Oper.quietAt; go_simp; first | done | (with_reducible rfl) | rfl | exact ⟨rfl, rfl⟩)); (focus (simp only [Act.put, List.setIfInBounds_toArray, List.set_cons_zero, List.set_cons_succ]; with_reducible rfl))))
                refine q_nil ?_
                intro w5 h5
                have H5 := Lib.hid h5
                clear h5
                go_wp2_with fail
                go_roundg (0 + k)
                case measure => omega
                case rel => exact ⟨k, (k : Int) - 1, q, by omega, rfl, by go_num, rfl, rfl, H5.out.1, H5.out.2, HV4.out⟩
              | true =>
                rw [hrck] at hrk d7
                have hx : f.bl[k]? = some f.bl[k] := List.getElem?_eq_getElem hkl
                rw [visit_true hx hrk] at hv4
                have hcbw : cb < wr.heap.size := (Array.getElem?_eq_some_iff.1 hs4).1
                have h2lb : 2 ≤ lb := by have := h4.wlt; have := h4.lv.gr.lt; omega
                have HPT := Lib.hid (fun (W : World) (hW : Below wr.heap.size wr W) => point_53 lb gb f ⟨SA, sc, BA, bc, OA, oc, AA, ac⟩ G rc I r q.1 W (h4.lv.after hW) HG.out hF (h4.tabs.after hW) h2lb k f.bl[k] hx 0 (by omega) cb sec ((hW.block cb hcbw).trans hs4) HSL.out)
                have hpl := point_lt (sec := sec) h4.lv.ok HSL.out (once (exitTo (f.bl[k]).ex)) (by have h9 := HG.out.blOk; rw [HREG.out, Int.toNat_natCast] at h9; exact h9 _ (List.getElem_mem hkl)) 0
                have hil := inAt_lt h4.lv.ok (k : Int)
                have hsk := h4.lv.slt hkl
                have HJN := Lib.hid (fun (W : World) (b : Nat) (hne : I.sb k ≠ b) (h1 : SetAt W (I.sb k) (inAt q.1 k) r) (h2 : SetAt W b (point (once (exitTo (f.bl[k]).ex)) f.bl[k] q.1 0 sec) r) => join_25 (I.sb k) b (inAt q.1 k) (point (once (exitTo (f.bl[k]).ex)) f.bl[k] q.1 0 sec) r W hr4 (two_r hil hr4) (two_r hpl hr4) hpl hne h1 h2)
                have HJL := Lib.hid (join_lt hil hpl)
                have HIA := Lib.hid (h4.lv.inAt_set hkl)
                have HV4 := Lib.hid hv4
                have HRK := Lib.hid hrk
                clear h4 hs4 hv4 hrck hrk hx hil hpl
                generalize point (once (exitTo (f.bl[k]).ex)) f.bl[k] q.1 0 sec = pt at *
                have HR0 := Lib.hid ((Below.refl wr.heap.size wr).drew)
                have K0 := Lib.hid ((H4.out.after HR0.out).reads hkl HRK.out)
                have hskn : I.sb k ≠ wr.heap.size := by omega
                have hskcb : I.sb k ≠ cb := by have := HSB.out k hkl; omega
                cases hgr : decide (inAt q.1 (k : Int) ||| pt ≠ inAt q.1 (k : Int))
                all_goals
                  rw [hgr] at HJN HV4
                  clear hgr
                  go_wp2_with fail
                  go_region_held3 (fun W => W.cell? ⟨lb, 0, none⟩ = some (.pointer (some ⟨gb, 0, none⟩)) ∧ W.cell? ⟨gb, 6, none⟩ = some (.slice (some ⟨G.rb, 0, none⟩) f.bl.length f.bl.length) ∧ W.cell? ⟨G.rb, k, none⟩ = some (.bool true) ∧ W.cell? ⟨lb, 1, none⟩ = some (.slice (some ⟨I.ib, 0, none⟩) f.bl.length I.ic) ∧ W.cell? ⟨I.ib, k, none⟩ = some (.pointer (some ⟨I.sb k, 0, none⟩)))
                    (first | exact K0.out | exact K1.out | exact K2.out)
                    (first
                      | (go_at_call 53; refine (HPT.out _ HR0.out).mono ?_; rintro e w5 ⟨rfl, hb5, hs5⟩; rw [show wr.drew.heap.size = wr.heap.size from rfl] at hs5; have B1 := Lib.hid (HR0.out.trans hb5); have HS5 := Lib.hid hs5; have HE5 := Lib.hid (H4.out.after B1.out); have K1 := Lib.hid (HE5.out.reads hkl HRK.out); have HIA5 := Lib.hid (HE5.out.lv.inAt_set hkl); have HC5 := Lib.hid ((B1.out.block cb hcbw).trans HS4.out); clear hb5 hs5)
                      | (go_at_call 25; refine (HJN.out _ _ hskn HIA5.out HS5.out).mono ?_; rintro e w6 ⟨rfl, hg6, hs6⟩; have HE6 := Lib.hid (HE5.out.set h2w hkl hg6 hs6 HJL.out); have K2 := Lib.hid (HE6.out.reads hkl HRK.out); have HC6 := Lib.hid (SetAt.grown HC5.out hg6 (fun e => hskcb (Option.some.inj e).symm)); clear hg6 hs6))
                  go_wp2_with fail
                  go_roundg (0 + k)
                  case measure => omega
                  case rel => exact ⟨k, (k : Int) - 1, _, by omega, rfl, by go_num, rfl, by first | rfl | (simp), HE6.out, HC6.out, HV4.out⟩
end Go.Proofs.YthgbmhpfblgjcaaGreatDoor.fl
namespace Go.Proofs.YthgbmhpfblgjcaaGreatDoor.fl
open Go.RowKit Go.Shelf
open M T ty
set_option linter.unusedVariables false
theorem filter_bits (m n : Nat) : (List.range (64 * n + 64)).filter m.testBit = (List.range (64 * n)).filter m.testBit ++ (bitsOf (word m n)).map (fun k => 64 * n + k) := by
  rw [List.range_add, List.filter_append, List.filter_map]
  congr 1
  unfold bitsOf
  congr 1
  apply List.filter_congr
  intro k hk
  simp only [Function.comp]
  rw [bit_word, decide_eq_true (List.mem_range.1 hk), Bool.true_and]
theorem mem_eq (m : Nat) : ∀ i, mem m i = ((List.range (64 * i)).filter m.testBit).map Int.ofNat
  | 0 => by simp [mem]
  | i + 1 => by
    rw [mem_succ, mem_eq m i, show 64 * (i + 1) = 64 * i + 64 by omega, filter_bits, List.map_append, List.map_map]
    congr 1
    apply List.map_congr_left
    intro k _
    simp only [Function.comp]
    rw [show i * 64 + k = 64 * i + k by omega]
    rfl
theorem mem_all {m r : Nat} (hm : m < 2 ^ r) (hr : r ≤ 4096) : mem m ((r + 63) / 64) = list m := by
  rw [mem_eq]
  unfold list
  have h64 : 64 * ((r + 63) / 64) ≤ 4096 := by omega
  obtain ⟨d, hd⟩ := Nat.exists_eq_add_of_le h64
  rw [hd, List.range_add, List.filter_append]
  have : ((List.range d).map (64 * ((r + 63) / 64) + ·)).filter m.testBit = [] := by
    rw [List.filter_eq_nil_iff]
    intro j hj
    obtain ⟨k, _, rfl⟩ := List.mem_map.1 hj
    have : m < 2 ^ (64 * ((r + 63) / 64) + k) := Nat.lt_of_lt_of_le hm (Nat.pow_le_pow_right (by decide) (by omega))
    rw [Nat.testBit_lt_two_pow this]
    decide
  rw [this, List.append_nil]
theorem list_bd {m r : Nat} (hm : m < 2 ^ r) {n : Int} (hn : n ∈ list m) : 0 ≤ n ∧ n < r := by
  unfold list at hn
  obtain ⟨j, hj, rfl⟩ := List.mem_map.1 hn
  rw [List.mem_filter] at hj
  refine ⟨by simp, ?_⟩
  have h2 := hj.2
  rcases Nat.lt_or_ge j r with h | h
  · simpa using h
  · have : m < 2 ^ j := Nat.lt_of_lt_of_le hm (Nat.pow_le_pow_right (by decide) h)
    rw [Nat.testBit_lt_two_pow this] at h2
    cases h2
theorem list_len (m : Nat) : (list m).length ≤ 4096 := by
  unfold list
  rw [List.length_map]
  exact Nat.le_trans (List.length_filter_le _ _) (by simp)
theorem list_any (a m r : Nat) (w : World) (hr : r ≤ 4096) (hm : m < 2 ^ r) (hT : Tabs w) (h : SetAt w a m r) :
    Calls Tryz.prog 26 #[.pointer (some ⟨a, 0, none⟩)] w fun e w' => ∃ v, e = .returned v ∧ IntsAt w' w.heap.size v (list m) ∧ Below w.heap.size w w' := by
  have := list_26 a m r w hr hT.tab (by have := hT.two; omega) h
  rw [mem_all hm hr] at this
  exact this
/-- what the document asks ahead of a call on a function -/
structure Stands (w : World) (f : Fn) (L : FLay) (r : Nat) : Prop where
  fn : FnAt w w.heap.size f L
  tabs : Tabs w
  fits : Fits f
  ok : fnB 4611686018427387904 f = true
  reg : f.regs = (r : Int)
theorem Stands.after {w W : World} {f : Fn} {L : FLay} {r : Nat} (h : Stands w f L r) (hb : Below w.heap.size w W) : Stands W f L r := ⟨h.fn.after hb, h.tabs.after hb, h.fits, h.ok, h.reg⟩
theorem Stands.good {w : World} {f : Fn} {L : FLay} {r : Nat} (h : Stands w f L r) : Good 4611686018427387904 f := good_of h.ok
theorem Stands.r4 {w : World} {f : Fn} {L : FLay} {r : Nat} (h : Stands w f L r) : r ≤ 4096 := by have := h.good.r; have := h.reg; omega
/-- the box of a function's value, ahead of a call -/
def FObj (f : Fn) (L : FLay) : Obj := .cells #[.string f.name, .int .i64 f.params, .int .i64 f.regs, .slice L.SA f.slots.length L.sc, .slice L.BA f.bl.length L.bc] 25
theorem Stands.boxed {w : World} {f : Fn} {L : FLay} {r : Nat} (h : Stands w f L r) : Stands (w.alloc (FObj f L)) f L r := h.after ((Below.refl _ _).alloc (Nat.le_refl _) _)
set_option maxRecDepth 20000 in
set_option maxHeartbeats 8000000 in
theorem Reached_59x (f : Fn) (L : FLay) (r : Nat) (w : World) (h : Stands w f L r) :
    Calls Tryz.prog 59 #[fnV f L] w fun e w' => ∃ rb rc, e = .returned (.tuple #[.slice (some ⟨rb, 0, none⟩) f.bl.length f.bl.length, .int .i64 0]) ∧ BoolsAt w' rb rc ∧ rc.length = f.bl.length ∧ Found (tos f.bl) (-1) 0 rc ∧ Below w.heap.size w w' ∧ w.heap.size ≤ rb := by
  have hb := h.boxed
  have HDR := Lib.hid (drawn_51x f L _ hb.fn hb.tabs.keys (by have := hb.fits.name; simp only [maxLen]; omega) hb.fits.fit hb.ok)
  have HAL : Hid (Below w.heap.size w (w.alloc (FObj f L))) := Lib.hid ((Below.refl _ _).alloc (Nat.le_refl _) _)
  have HV : Hid (FBox (w.alloc (FObj f L)) w.heap.size f L) := Lib.hid (heap_alloc_new w _)
  clear h hb
  obtain ⟨SA, sc, BA, bc, OA, oc, AA, ac⟩ := L
  unfold fnV at HDR ⊢
  unfold FObj at HDR HAL HV
  simp only at HDR HAL HV ⊢
  go_enter Tryz.func59, Tryz.ntmps59
  go_wp2_with (go_at_call 51; refine HDR.out.mono ?_; rintro e w1 ⟨gb, G, rc, rfl, hgr, hfd, hgb, hb1, hrb⟩; obtain ⟨c0, c1, c2, c3, c4, c5, c6⟩ := hgr.cells; have HGR := Lib.hid hgr; have HFD := Lib.hid hfd; have HB1 := Lib.hid (HAL.out.trans (hb1.mono HAL.out.size)); clear hgr hfd hgb hb1)
  go_ret2
  exact ⟨G.rb, rc, rfl, HGR.out.rch, HGR.out.rlen, HFD.out, HB1.out, Nat.le_trans HAL.out.size hrb⟩
theorem Reached_59 (f : Fn) (L : FLay) (r : Nat) (w : World) (h : Stands w f L r) :
    Calls Tryz.prog 59 #[fnV f L] w fun e w' => ∃ rb rc, e = .returned (.tuple #[.slice (some ⟨rb, 0, none⟩) f.bl.length f.bl.length, .int .i64 0]) ∧ BoolsAt w' rb rc ∧ rc.length = f.bl.length ∧ Found (tos f.bl) (-1) 0 rc ∧ Below w.heap.size w w' := by
  refine (Reached_59x f L r w h).mono ?_
  rintro e w' ⟨rb, rc, h1, h2, h3, h4, h5, -⟩
  exact ⟨rb, rc, h1, h2, h3, h4, h5⟩
end Go.Proofs.YthgbmhpfblgjcaaGreatDoor.fl
namespace Go.Proofs.YthgbmhpfblgjcaaGreatDoor.fl
open Go.RowKit Go.Shelf
open M T ty
set_option linter.unusedVariables false
/-- all that stood is as it was, but for blocks of a kind -/
structure Bes (X : Nat → Prop) (W W' : World) : Prop where
  os : W'.os = W.os
  tape : W'.tape = W.tape
  output : W'.output = W.output
  size : W.heap.size ≤ W'.heap.size
  block : ∀ g, g < W.heap.size → ¬ X g → W'.heap[g]? = W.heap[g]?
section
variable {X Y : Nat → Prop} {W W' W2 : World}
theorem Bes.refl : Bes X W W := ⟨rfl, rfl, rfl, Nat.le_refl _, fun _ _ _ => rfl⟩
theorem Bes.of_below (h : Below W.heap.size W W') : Bes X W W' := ⟨h.os, h.tape, h.output, h.size, fun g hg _ => h.block g hg⟩
theorem Bes.of_grown {k : Nat} (h : W.grownBy W' (some k)) (hk : X k) : Bes X W W' := ⟨h.os, h.tape, h.output, h.size, fun g hg hx => h.block g hg (fun e => hx (by have := Option.some.inj e; rw [this]; exact hk))⟩
theorem Bes.trans (h : Bes X W W') (k : Bes Y W' W2) (hs : ∀ g, Y g → X g ∨ W.heap.size ≤ g) : Bes X W W2 :=
  ⟨k.os.trans h.os, k.tape.trans h.tape, k.output.trans h.output, Nat.le_trans h.size k.size, fun g hg hx => (k.block g (Nat.lt_of_lt_of_le hg h.size) (fun hy => (hs g hy).elim hx (fun h => by omega))).trans (h.block g hg hx)⟩
theorem Bes.below (h : Bes X W W') {B : Nat} (hB : ∀ g, X g → B ≤ g) (hs : B ≤ W.heap.size) : Below B W W' := ⟨h.os, h.tape, h.output, h.size, fun g hg => h.block g (by omega) (fun hx => by have := hB g hx; omega)⟩
end
/-- what a closure that captures one variable keeps: Inv, of what it has been told, over blocks of its own -/
structure Clo (c : FuncId) (q : Addr) (r : Nat) (w0 : World) (Ok : Op → Prop) (Inv : List (Op × Nat) → (Nat → Prop) → World → Prop) : Prop where
  run : ∀ (D : List (Op × Nat)) (X : Nat → Prop) (W : World) (o : Op) (AA : Option Addr) (ac b m : Nat), Inv D X W → Ok o → Below w0.heap.size w0 W → Rd W w0.heap.size AA (ints o.args) → SetAt W b m r → m < 2 ^ r → ¬ X b → Tabs W →
    Calls Tryz.prog c #[opV o AA ac, .pointer (some ⟨b, 0, none⟩), .pointer (some q)] W fun e W' => e = .returned (.tuple #[]) ∧ ∃ X', Inv (D ++ [(o, m)]) X' W' ∧ Bes X W W' ∧ ∀ g, X' g → X g ∨ W.heap.size ≤ g
  frame : ∀ (D : List (Op × Nat)) (X : Nat → Prop) (W W' : World), Inv D X W → (∀ g, X g → W'.heap[g]? = W.heap[g]?) → W.heap.size ≤ W'.heap.size → Inv D X W'
  lt : ∀ (D : List (Op × Nat)) (X : Nat → Prop) (W : World), Inv D X W → ∀ g, X g → g < W.heap.size
/-- the variables of each stand -/
structure EnvE (Inv : List (Op × Nat) → (Nat → Prop) → World → Prop) (w0 w W : World) (X Xc : Nat → Prop) (D : List (Op × Nat)) (cb sec r : Nat) : Prop where
  b0 : Below w0.heap.size w0 W
  bes : Bes X w W
  inv : Inv D Xc W
  sub : ∀ g, Xc g → X g ∨ w.heap.size ≤ g
  xlt : ∀ g, Xc g → g < W.heap.size
  sec : SetAt W cb sec r
  nsec : ¬ Xc cb
  clt : w.heap.size ≤ cb
section
variable {c : FuncId} {q : Addr} {Ok : Op → Prop} {Inv : List (Op × Nat) → (Nat → Prop) → World → Prop} {w0 w W W' : World} {X Xc : Nat → Prop} {D : List (Op × Nat)} {cb sec r : Nat}
theorem EnvE.after (h : EnvE Inv w0 w W X Xc D cb sec r) (hC : Clo c q r w0 Ok Inv) (hb : Below W.heap.size W W') : EnvE Inv w0 w W' X Xc D cb sec r :=
  ⟨h.b0.trans (hb.mono h.b0.size), h.bes.trans (Bes.of_below (X := X) hb) (fun g hg => .inl hg), hC.frame _ _ _ _ h.inv (fun g hg => hb.block g (h.xlt g hg)) hb.size, h.sub, fun g hg => Nat.lt_of_lt_of_le (h.xlt g hg) hb.size, (hb.block _ (Array.getElem?_eq_some_iff.1 h.sec).1).trans h.sec, h.nsec, h.clt⟩
theorem EnvE.step (h : EnvE Inv w0 w W X Xc D cb sec r) (hC : Clo c q r w0 Ok Inv) (h0 : w0.heap.size ≤ w.heap.size) {k : Nat} (hk : w.heap.size ≤ k) (hx : ¬ Xc k) (hne : k ≠ cb) (hg : W.grownBy W' (some k)) : EnvE Inv w0 w W' X Xc D cb sec r :=
  ⟨h.b0.grown hg h.b0.size (fun j hj => by have := Option.some.inj hj; omega), h.bes.trans (Bes.of_grown (X := fun g => g = k) hg rfl) (fun g hg => .inr (by omega)), hC.frame _ _ _ _ h.inv (fun g hg' => hg.block g (h.xlt g hg') (fun e => hx (by have := Option.some.inj e; rw [← this]; exact hg'))) hg.size, h.sub, fun g hg' => Nat.lt_of_lt_of_le (h.xlt g hg') hg.size, h.sec.grown hg (fun e => hne (Option.some.inj e).symm), h.nsec, h.clt⟩
theorem EnvE.call (h : EnvE Inv w0 w W X Xc D cb sec r) (hC : Clo c q r w0 Ok Inv) (h0 : w0.heap.size ≤ w.heap.size) (hX : ∀ g, X g → w0.heap.size ≤ g) {X' : Nat → Prop} {D' : List (Op × Nat)} (hi : Inv D' X' W') (hb : Bes Xc W W') (hs : ∀ g, X' g → Xc g ∨ W.heap.size ≤ g) : EnvE Inv w0 w W' X X' D' cb sec r := by
  have hcb := (Array.getElem?_eq_some_iff.1 h.sec).1
  have hws := h.bes.size
  refine ⟨h.b0.trans (hb.below (fun g hg => (h.sub g hg).elim (hX g) (fun h => by omega)) h.b0.size), h.bes.trans hb h.sub, hi, fun g hg => ?_, hC.lt _ _ _ hi, (hb.block _ hcb h.nsec).trans h.sec, fun hx => ?_, h.clt⟩
  · rcases hs g hg with h1 | h1
    · exact h.sub g h1
    · exact .inr (by omega)
  · rcases hs _ hx with h1 | h1
    · exact h.nsec h1
    · omega
end
theorem behind_lt {m sec r : Nat} (hm : m < 2 ^ r) (o : Op) (hsec : sec < 2 ^ r) : behind m o sec < 2 ^ r := by
  unfold behind
  split
  · exact join_lt (drop_lt hm) hsec
  · exact drop_lt hm
theorem evR_step {sec m : Nat} {ops : List Op} {k : Nat} {o : Op} (h : ops[k]? = some o) : evR sec (ops.take (k + 1)).reverse m = (o, behind m o sec) :: evR sec (ops.take k).reverse (back m o sec) := by
  rw [List.take_add_one, h, List.reverse_append]
  rfl
theorem evAt_true {bl : List Bl} {rc : List Bool} {s : Ins} {i : Nat} {x : Bl} (hx : bl[i]? = some x) (hr : rc[i]? = some true) : evAt bl rc s i = evR (second bl rc s) (x.ops.take x.ops.length).reverse (point (once (exitTo x.ex)) x s x.ops.length (second bl rc s)) := by
  unfold evAt
  rw [hx, tos_get hx, List.take_length]
  simp only
  rw [if_pos hr]
  rfl
theorem evAt_false {bl : List Bl} {rc : List Bool} {s : Ins} {i : Nat} (hr : rc[i]? = some false) : evAt bl rc s i = [] := by
  unfold evAt
  split
  · rw [if_neg (by rw [hr]; simp)]
  · rfl
end Go.Proofs.YthgbmhpfblgjcaaGreatDoor.fl
