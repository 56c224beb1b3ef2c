/-
  Of package twice: a set's list; of slices: Clone. Conditions: what each reads stands in memory.
-/
import Derived.Test.YthgbmhpfblgjcaaGreatDoorTwE
import Derived.Lib.SliceRun
set_option linter.unusedVariables false
set_option linter.unusedSimpArgs false
namespace Go.Proofs.YthgbmhpfblgjcaaGreatDoor.fl
open Go.RowKit Go.Shelf
open M T ty
set_option linter.unusedVariables false
structure PLay where
  (rb go gi : Nat) (At : Nat → Option Addr) (ct : Nat → Nat) (Ai : Nat → Option Addr) (ci : Nat → Nat) (ov : Value)
/-- a pass stands below block B, its head in block pb -/
structure PaAt (W : World) (B pb : Nat) (f : Fn) (L : FLay) (P : PLay) (rc : List Bool) (s : Ins) : Prop where
  lt : pb < B
  blk : W.heap[pb]? = some (.cells #[.string f.name, .int .i64 f.params, .int .i64 f.regs, .slice L.SA f.slots.length L.sc, .slice L.BA f.bl.length L.bc, .slice (some ⟨P.rb, 0, none⟩) f.bl.length f.bl.length, .slice (some ⟨P.go, 0, none⟩) f.bl.length f.bl.length, .slice (some ⟨P.gi, 0, none⟩) f.bl.length f.bl.length, P.ov] 92 (0, 0))
  fn : FnAt W B f L
  rlt : P.rb < B
  rch : BoolsAt W P.rb rc
  rlen : rc.length = f.bl.length
  tr : RowsAt W B (some ⟨P.go, 0, none⟩) ((tos f.bl).map rise) P.At P.ct
  inn : RowsAt W B (some ⟨P.gi, 0, none⟩) ((List.range f.bl.length).map (liveIn rc s)) P.Ai P.ci
section
variable {W W' : World} {B B' pb : Nat} {f : Fn} {L : FLay} {P : PLay} {rc : List Bool} {s : Ins}
theorem PaAt.below (h : PaAt W B pb f L P rc s) (hb : Below B W W') : PaAt W' B pb f L P rc s :=
  ⟨h.lt, (hb.block _ h.lt).trans h.blk, h.fn.below hb, h.rlt, h.rch.below hb h.rlt, h.rlen, h.tr.below hb, h.inn.below hb⟩
theorem PaAt.more (h : PaAt W B pb f L P rc s) (hB : B ≤ B') : PaAt W B' pb f L P rc s :=
  ⟨Nat.lt_of_lt_of_le h.lt hB, h.blk, h.fn.keep (fun _ _ => rfl) hB, Nat.lt_of_lt_of_le h.rlt hB, h.rch, h.rlen, h.tr.more hB, h.inn.more hB⟩
end
/-- a pass's cells -/
def PBox (W : World) (pb : Nat) (f : Fn) (L : FLay) (a b c d : Value) : Prop := W.heap[pb]? = some (.cells #[.string f.name, .int .i64 f.params, .int .i64 f.regs, .slice L.SA f.slots.length L.sc, .slice L.BA f.bl.length L.bc, a, b, c, d] 92 (0, 0))
section
variable {W W' : World} {pb : Nat} {f : Fn} {L : FLay} {a b c d : Value}
theorem PBox.lt (h : PBox W pb f L a b c d) : pb < W.heap.size := (Array.getElem?_eq_some_iff.1 h).1
theorem PBox.s5 (h : PBox W pb f L a b c d) (v : Value) : PBox (W.setCell ⟨pb, 5, none⟩ v) pb f L v b c d := heap_set (o := 5) h v
theorem PBox.s6 (h : PBox W pb f L a b c d) (v : Value) : PBox (W.setCell ⟨pb, 6, none⟩ v) pb f L a v c d := heap_set (o := 6) h v
theorem PBox.s7 (h : PBox W pb f L a b c d) (v : Value) : PBox (W.setCell ⟨pb, 7, none⟩ v) pb f L a b v d := heap_set (o := 7) h v
theorem PBox.s8 (h : PBox W pb f L a b c d) (v : Value) : PBox (W.setCell ⟨pb, 8, none⟩ v) pb f L a b c v := heap_set (o := 8) h v
theorem PBox.after (h : PBox W pb f L a b c d) (hb : Below W.heap.size W W') : PBox W' pb f L a b c d := (hb.block _ h.lt).trans h
theorem FBox.lt {W : World} {g : Nat} {f : Fn} {L : FLay} (h : FBox W g f L) : g < W.heap.size := (Array.getElem?_eq_some_iff.1 h).1
theorem FBox.after {W W' : World} {g : Nat} {f : Fn} {L : FLay} (h : FBox W g f L) (hb : Below W.heap.size W W') : FBox W' g f L := (hb.block _ h.lt).trans h
theorem FBox.other {W : World} {g q o : Nat} {f : Fn} {L : FLay} (h : FBox W g f L) (hq : g ≠ q) (v : Value) : FBox (W.setCell ⟨q, o, none⟩ v) g f L := (heap_other v hq).trans h
end
set_option maxRecDepth 20000 in
set_option maxHeartbeats 8000000 in
theorem looked_32 (f : Fn) (L : FLay) (r : Nat) (w : World) (h : Stands w f L r) :
    Calls Tryz.prog 32 #[fnV f L] w fun e w' => ∃ pb P rc s, e = .returned (.tuple #[.pointer (some ⟨pb, 0, none⟩), .int .i64 0]) ∧ PaAt w' w'.heap.size pb f L P rc s ∧ Found (tos f.bl) (-1) 0 rc ∧ Lives (tos f.bl) f.bl rc s ∧ w.heap.size ≤ pb ∧ Below w.heap.size w w' := by
  have hb := h.boxed
  have HCF := Lib.hid (CheckFunc_58 f L _ hb.fn hb.tabs.keys (by have := hb.fits.name; simp only [maxLen]; omega) hb.fits.fit)
  rw [hb.ok, if_pos rfl] at HCF
  have HAL : Hid (Below w.heap.size w (w.alloc (FObj f L))) := Lib.hid ((Below.refl _ _).alloc (Nat.le_refl _) _)
  have HV : Hid (FBox (w.alloc (FObj f L)) w.heap.size f L) := Lib.hid (heap_alloc_new w _)
  have HSS : Hid (∀ W, Below w.heap.size w W → Stands W f L r) := Lib.hid fun W hW => h.after hW
  clear h hb
  obtain ⟨SA, sc, BA, bc, OA, oc, AA, ac⟩ := L
  unfold fnV at HCF ⊢
  unfold FObj at HCF HAL HV
  simp only at HCF HAL HV ⊢
  go_enter Tryz.func32, Tryz.ntmps32
  go_wp2_with (first
    | (go_at_call 58; go_loud ((refine HCF.out.mono ?_; rintro e w1 ⟨rfl, hb1⟩; have hv1 : FBox w1 w.heap.size f ⟨SA, sc, BA, bc, OA, oc, AA, ac⟩ := HV.out.after hb1; go_loud (obtain ⟨c0, c1, c2, c3, c4⟩ := hv1.cells); go_loud (have hlw := hv1.lt); go_loud (have hne : w.heap.size ≠ w1.heap.size := by omega); go_loud (have HV1 := Lib.hid hv1); go_loud (have HB1 := Lib.hid (HAL.out.trans (hb1.mono HAL.out.size))); go_loud (clear hv1 hb1))))
    | (go_at_call 59; go_loud ((refine (Reached_59 f ⟨SA, sc, BA, bc, OA, oc, AA, ac⟩ r _ (HSS.out _ (HB1.out.alloc HB1.out.size _))).mono ?_; rintro e w2 ⟨rb, rc, rfl, hrc, hrl, hfd, hb2⟩; have hp2 : PBox w2 w1.heap.size f ⟨SA, sc, BA, bc, OA, oc, AA, ac⟩ (.slice none 0 0) (.slice none 0 0) (.slice none 0 0) (.slice none 0 0) := PBox.after (heap_alloc_new w1 _) hb2; have hv2 : FBox w2 w.heap.size f ⟨SA, sc, BA, bc, OA, oc, AA, ac⟩ := FBox.after ((heap_alloc_lt w1 _ hlw).trans HV1.out) hb2; have hrbn : rb ≠ w1.heap.size := (by intro e; rw [e] at hrc; have := hp2.symm.trans hrc; simp at this); obtain ⟨d0, d1, d2, d3, d4⟩ := hv2.cells; have c5 := Go.Joins.cell_of_block hp2 5; have f5 := Go.Joins.unfrozen_of_block hp2 5; have HB2 := Lib.hid (((HB1.out.alloc HB1.out.size _).trans (hb2.mono (Nat.le_trans HB1.out.size (by simp)))).setCell (p := ⟨w1.heap.size, 5, none⟩) HB1.out.size (.slice (some ⟨rb, 0, none⟩) f.bl.length f.bl.length)); have HP2 := Lib.hid (hp2.s5 (.slice (some ⟨rb, 0, none⟩) f.bl.length f.bl.length)); have HV2 := Lib.hid (hv2.other (q := w1.heap.size) (o := 5) hne (.slice (some ⟨rb, 0, none⟩) f.bl.length f.bl.length)); have HRC : Hid (BoolsAt (w2.setCell ⟨w1.heap.size, 5, none⟩ (.slice (some ⟨rb, 0, none⟩) f.bl.length f.bl.length)) rb rc) := Lib.hid ((heap_other _ hrbn).trans hrc); have HFD := Lib.hid hfd; have HRL := Lib.hid hrl; clear hfd hrl hrc hp2 hv2 hb2 c0 c1 c2 c3 c4)))
    | (go_at_call 60; go_loud ((refine (Edges_60 f ⟨SA, sc, BA, bc, OA, oc, AA, ac⟩ r _ (HSS.out _ HB2.out)).mono ?_; rintro e w3 ⟨go, gk, At, ct, rfl, htr, hb3⟩; have hs3 : w1.heap.size < w2.heap.size := (by have := HP2.out.lt; rw [World.size_setCell] at this; exact this); have hp3 : PBox w3 w1.heap.size f ⟨SA, sc, BA, bc, OA, oc, AA, ac⟩ (.slice (some ⟨rb, 0, none⟩) f.bl.length f.bl.length) (.slice none 0 0) (.slice none 0 0) (.slice none 0 0) := HP2.out.after hb3; have hv3 : FBox w3 w.heap.size f ⟨SA, sc, BA, bc, OA, oc, AA, ac⟩ := HV2.out.after hb3; obtain ⟨d0, d1, d2, d3, d4⟩ := hv3.cells; have c6 := Go.Joins.cell_of_block hp3 6; have f6 := Go.Joins.unfrozen_of_block hp3 6; have HB3 := Lib.hid ((HB2.out.trans (hb3.mono HB2.out.size)).setCell (p := ⟨w1.heap.size, 6, none⟩) HB1.out.size (.slice (some ⟨go, 0, none⟩) f.bl.length f.bl.length)); have HP3 := Lib.hid (hp3.s6 (.slice (some ⟨go, 0, none⟩) f.bl.length f.bl.length)); have HV3 := Lib.hid (hv3.other (q := w1.heap.size) (o := 6) hne (.slice (some ⟨go, 0, none⟩) f.bl.length f.bl.length)); have hrl3 := hb3.size; have HRC3 : Hid (BoolsAt (w3.setCell ⟨w1.heap.size, 6, none⟩ (.slice (some ⟨go, 0, none⟩) f.bl.length f.bl.length)) rb rc) := Lib.hid ((heap_other _ hrbn).trans ((hb3.block rb (Array.getElem?_eq_some_iff.1 HRC.out).1).trans HRC.out)); have HTR := Lib.hid (htr.keep (P' := fun g => w1.heap.size < g ∧ g < w3.heap.size) (W' := w3.setCell ⟨w1.heap.size, 6, none⟩ (.slice (some ⟨go, 0, none⟩) f.bl.length f.bl.length)) (fun g hg => ⟨⟨(by have := hg.1; rw [World.size_setCell] at this; omega), hg.2⟩, heap_other _ (by have := hg.1; rw [World.size_setCell] at this; omega)⟩)); clear htr hp3 hv3 hb3 c5 f5)))
    | (go_at_call 11; go_loud ((refine (Live_11 f ⟨SA, sc, BA, bc, OA, oc, AA, ac⟩ r _ (HSS.out _ HB3.out)).mono ?_; rintro e w4 ⟨rc', s, gi, gq, Ai, ci, Ao, co, rfl, hin, -, hfo, hli, hb4⟩; have hs4 : w1.heap.size < w3.heap.size := (by have := HP3.out.lt; rw [World.size_setCell] at this; exact this); have hp4 : PBox w4 w1.heap.size f ⟨SA, sc, BA, bc, OA, oc, AA, ac⟩ (.slice (some ⟨rb, 0, none⟩) f.bl.length f.bl.length) (.slice (some ⟨go, 0, none⟩) f.bl.length f.bl.length) (.slice none 0 0) (.slice none 0 0) := HP3.out.after hb4; have c7 := Go.Joins.cell_of_block hp4 7; have f7 := Go.Joins.unfrozen_of_block hp4 7; have c8 := Go.Joins.cell_of_block hp4 8; have f8 := Go.Joins.unfrozen_of_block hp4 8; have HB4 := Lib.hid (HB3.out.trans (hb4.mono HB3.out.size)); have HP4 := Lib.hid hp4; have HRC4 : Hid (BoolsAt w4 rb rc) := Lib.hid ((hb4.block rb (Array.getElem?_eq_some_iff.1 HRC3.out).1).trans HRC3.out); have HTR4 := Lib.hid (HTR.out.keep (P' := fun g => w1.heap.size < g ∧ g < w4.heap.size) (W' := w4) (fun g hg => ⟨⟨hg.1, (by have := hb4.size; rw [World.size_setCell] at this; omega)⟩, hb4.block g (by rw [World.size_setCell]; exact hg.2)⟩)); have HIN := Lib.hid (hin.keep (P' := fun g => w1.heap.size < g ∧ g < w4.heap.size) (W' := w4) (fun g hg => ⟨⟨(by have := hg.1; rw [World.size_setCell] at this; omega), hg.2⟩, rfl⟩)); have HFO := Lib.hid hfo; have HLI := Lib.hid hli; clear hin hfo hli hp4 hb4 c6 f6))))
  obtain rfl := HFO.out.unique HFD.out
  go_ret2
  have hb9 : Below w.heap.size w ((w4.setCell ⟨w1.heap.size, 7, none⟩ (.slice (some ⟨gi, 0, none⟩) f.bl.length f.bl.length)).setCell ⟨w1.heap.size, 7 + 1, none⟩ (.slice (some ⟨gq, 0, none⟩) f.bl.length f.bl.length)) := (HB4.out.setCell (p := ⟨w1.heap.size, 7, none⟩) HB1.out.size _).setCell (p := ⟨w1.heap.size, 7 + 1, none⟩) HB1.out.size _
  have hot : ∀ g, g ≠ w1.heap.size → ((w4.setCell ⟨w1.heap.size, 7, none⟩ (.slice (some ⟨gi, 0, none⟩) f.bl.length f.bl.length)).setCell ⟨w1.heap.size, 7 + 1, none⟩ (.slice (some ⟨gq, 0, none⟩) f.bl.length f.bl.length)).heap[g]? = w4.heap[g]? := fun g hg => (heap_other _ hg).trans (heap_other _ hg)
  have hsz : ((w4.setCell ⟨w1.heap.size, 7, none⟩ (.slice (some ⟨gi, 0, none⟩) f.bl.length f.bl.length)).setCell ⟨w1.heap.size, 7 + 1, none⟩ (.slice (some ⟨gq, 0, none⟩) f.bl.length f.bl.length)).heap.size = w4.heap.size := by rw [World.size_setCell, World.size_setCell]
  refine ⟨w1.heap.size, ⟨rb, go, gi, At, ct, Ai, ci, .slice (some ⟨gq, 0, none⟩) f.bl.length f.bl.length⟩, _, s, rfl, ⟨?_, (HP4.out.s7 _).s8 _, (HSS.out _ hb9).fn, ?_, (hot _ hrbn).trans HRC4.out, HRL.out, ?_, ?_⟩, HFO.out, HLI.out, HB1.out.size, hb9⟩
  · rw [hsz]; exact HP4.out.lt
  · rw [hsz]; exact (Array.getElem?_eq_some_iff.1 HRC4.out).1
  · rw [hsz]; exact (HTR4.out.keep (P' := fun g => g < w4.heap.size) fun g hg => ⟨hg.2, hot g (by omega)⟩).at fun g hg => hg
  · rw [hsz]; exact (HIN.out.keep (P' := fun g => g < w4.heap.size) fun g hg => ⟨hg.2, hot g (by omega)⟩).at fun g hg => hg
end Go.Proofs.YthgbmhpfblgjcaaGreatDoor.fl
namespace Go.Proofs.YthgbmhpfblgjcaaGreatDoor.fl
open Go.RowKit Go.Shelf
open M T ty
set_option linter.unusedVariables false
theorem PaAt.cells {W : World} {B pb : Nat} {f : Fn} {L : FLay} {P : PLay} {rc : List Bool} {s : Ins} (h : PaAt W B pb f L P rc s) :
    W.cell? ⟨pb, 2, none⟩ = some (.int .i64 f.regs) ∧ W.cell? ⟨pb, 4, none⟩ = some (.slice L.BA f.bl.length L.bc) ∧ W.cell? ⟨pb, 5, none⟩ = some (.slice (some ⟨P.rb, 0, none⟩) f.bl.length f.bl.length) ∧ W.cell? ⟨pb, 6, none⟩ = some (.slice (some ⟨P.go, 0, none⟩) f.bl.length f.bl.length) ∧ W.cell? ⟨pb, 7, none⟩ = some (.slice (some ⟨P.gi, 0, none⟩) f.bl.length f.bl.length) :=
  ⟨Go.Joins.cell_of_block h.blk 2, Go.Joins.cell_of_block h.blk 4, Go.Joins.cell_of_block h.blk 5, Go.Joins.cell_of_block h.blk 6, Go.Joins.cell_of_block h.blk 7⟩
set_option maxRecDepth 20000 in
set_option maxHeartbeats 2000000 in
theorem isSet_33 {W : World} {B pb : Nat} {f : Fn} {L : FLay} {P : PLay} {rc : List Bool} {s : Ins} (h : PaAt W B pb f L P rc s) (hn4 : f.bl.length ≤ 4096) {b : Nat} {x : Bl} {c : Bool} (hx : f.bl[b]? = some x) (hc : rc[b]? = some c) :
    Calls Tryz.prog 33 #[.pointer (some ⟨pb, 0, none⟩), .int .i64 b] W fun e w' => e = .returned (.bool (c && decide (x.ex.k = 4))) ∧ w' = W := by
  have hb : b < f.bl.length := (List.getElem?_eq_some_iff.1 hx).1
  have hbI : (b : Int) < (f.bl.length : Int) := by omega
  obtain ⟨c2, c4, c5, c6, c7⟩ := h.cells
  have c8 := h.rch.cell hc
  obtain ⟨ad, p, x', e1, hx', hp, -, a0, a1, -⟩ := bl_at h.fn.bls hb
  rw [hx] at hx'
  obtain rfl := Option.some.inj hx'
  rw [e1] at c4
  clear h hx hx' hc
  cases c with
  | false =>
    go_enter Tryz.func33, Tryz.ntmps33
    go_wp2_with fail
    go_ret
    exact ⟨rfl, rfl⟩
  | true =>
    by_cases hk : x.ex.k = 4
    · have hkd : decide (x.ex.k = 4) = true := by simpa using hk
      rw [hkd]
      rw [hk] at a1
      clear hk hkd
      go_enter Tryz.func33, Tryz.ntmps33
      go_wp2_with fail
      go_ret
      exact ⟨rfl, rfl⟩
    · have hkd : decide (x.ex.k = 4) = false := by simpa using hk
      have hk2 : (x.ex.k == 4) = false := by simpa using hk
      rw [hkd]
      go_enter Tryz.func33, Tryz.ntmps33
      go_wp2_with fail
      go_ret
      exact ⟨rfl, rfl⟩
end Go.Proofs.YthgbmhpfblgjcaaGreatDoor.fl
namespace Go.Proofs.YthgbmhpfblgjcaaGreatDoor.fl
open Go.RowKit Go.Shelf
open M T ty
set_option linter.unusedVariables false
/-- the places of the truths among the first k -/
def trues (bs : List Bool) (k : Nat) : List Int := ((List.range k).filter fun i => bs[i]?.getD false).map fun i : Nat => (i : Int)
theorem trues_succ (bs : List Bool) (k : Nat) (b : Bool) (h : bs[k]? = some b) : trues bs (k + 1) = if b then trues bs k ++ [(k : Int)] else trues bs k := by
  unfold trues
  rw [List.range_succ, List.filter_append, List.map_append]
  cases b <;> simp [h]
theorem trues_len (bs : List Bool) (k : Nat) : (trues bs k).length ≤ k := by
  unfold trues
  rw [List.length_map]
  exact Nat.le_trans (List.length_filter_le _ _) (by simp)
theorem trues_mem (bs : List Bool) (x : Int) : x ∈ trues bs bs.length ↔ 0 ≤ x ∧ bs[x.toNat]? = some true := by
  unfold trues
  rw [List.mem_map]
  constructor
  · rintro ⟨i, hi, rfl⟩
    rw [List.mem_filter, List.mem_range] at hi
    refine ⟨by omega, ?_⟩
    rw [Int.toNat_natCast]
    have h2 := hi.2
    rw [List.getElem?_eq_getElem hi.1] at h2 ⊢
    simpa using h2
  · rintro ⟨h0, h1⟩
    refine ⟨x.toNat, ?_, by omega⟩
    rw [List.mem_filter, List.mem_range]
    exact ⟨(List.getElem?_eq_some_iff.1 h1).1, by rw [h1]; rfl⟩
set_option maxRecDepth 20000 in
set_option maxHeartbeats 4000000 in
theorem list_37 (g : Nat) (bs : List Bool) (w : World) (hg : BoolsAt w g bs) (hn : bs.length ≤ 4096) :
    Calls Tryz.prog 37 #[.slice (some ⟨g, 0, none⟩) bs.length bs.length] w fun e w' => ∃ v, e = .returned v ∧ IntsAt w' w.heap.size v (trues bs bs.length) ∧ Below w.heap.size w w' := by
  have HG := Lib.hid hg
  have hgl := hg.lt
  clear hg
  have hnI : (bs.length : Int) ≤ 4096 := by omega
  go_enter Tryz.func37, Tryz.ntmps37
  go_wp2_with fail
  go_loopg [8, 3] bs.length (fun N i t wr => ∃ k, k ≤ bs.length ∧ N = bs.length - k ∧ i = .int .i64 k ∧ wr.ownsRow w.heap.size 3 1 t (trues bs k).length (ints (trues bs k)) ∧ Below w.heap.size w wr)
  case atStart => exact ⟨0, by omega, rfl, rfl, World.ownsRow_nil _ _ _ _, Below.refl _ _⟩
  case round =>
    obtain ⟨k, hk, rfl, rfl, hown, hbl⟩ := hrel
    obtain ⟨A9, c9, rfl, -, -⟩ := own_form hown
    have HO := Lib.hid hown
    have HB := Lib.hid hbl
    clear hown hbl
    by_cases hlt : k < bs.length
    · have hlI : (k : Int) < (bs.length : Int) := by omega
      have hb : bs[k]? = some bs[k] := List.getElem?_eq_getElem hlt
      have a0 := (BoolsAt.below HG.out HB.out hgl).cell hb
      have HT := Lib.hid (trues_succ bs k _ hb)
      have htl := trues_len bs k
      clear hb
      cases hbk : bs[k] with
      | false =>
        rw [hbk] at a0 HT
        clear hbk
        go_wp2_with fail
        go_roundg (bs.length - (k + 1))
        case measure => omega
        case rel => exact ⟨k + 1, by omega, rfl, by go_num, by rw [HT.out]; exact HO.out, HB.out⟩
      | true =>
        rw [hbk] at a0 HT
        clear hbk
        have hsz := HB.out.size
        go_wp2_with (at_builtin; go_loud (refine wpList_app_one (w := wr.alloc (.cells #[.int .i64 k] 3)) rfl (.tmp 14) (.tmp 16) rfl (r := (k : Int)) rfl (HO.out.alloc _) rfl (heap_alloc_new wr _) (by omega) (by simp; omega) ?_); intro v6 w6 ho6 hg6; obtain ⟨A6, c6, rfl, -, -⟩ := own_form ho6; have HO6 := Lib.hid ho6; have HG6 := Lib.hid hg6; clear ho6 hg6)
        go_roundg (bs.length - (k + 1))
        case measure => omega
        case rel =>
          refine ⟨k + 1, by omega, rfl, by go_num, ?_, ?_⟩
          · have := HT.out
            simp only [if_true] at this
            rw [this]
            have h6 := HO6.out
            simpa using h6
          · exact (HB.out.alloc hsz _).grown HG6.out (by simp; omega) (fun j hj => (HO.out.lt j hj).1)
    · obtain rfl : k = bs.length := by omega
      go_wp2_with fail
      go_ret
      exact ⟨_, rfl, ⟨A9, c9, rfl, HO.out⟩, HB.out⟩
set_option maxRecDepth 20000 in
set_option maxHeartbeats 4000000 in
theorem clone_62 (A : Option Addr) (c : Nat) (l : List Int) (w : World) (hr : Rd w w.heap.size A (ints l)) (hn : l.length ≤ 4096) :
    Calls Tryz.prog 62 #[.slice A l.length c] w fun e w' => ∃ v, e = .returned v ∧ IntsAt w' w.heap.size v l ∧ Below w.heap.size w w' := by
  have HR := Lib.hid hr
  clear hr
  have q27 : ∀ (w : World) (a : Option Addr) (n c n' c' : Nat), (binOp .eql 27 (.slice a n c) (.slice none n' c')).run Tryz.prog w = .ok (.bool a.isNone) w := fun w a n c n' c' => Lib.run_eql_slice_nil w _ _ a n c n' c' Tryz.underlying27
  cases A with
  | none =>
    have h0 : l = [] := by
      rcases l with _ | ⟨x, l⟩
      · rfl
      · obtain ⟨ad, e, -⟩ := HR.out (by simp [ints])
        cases e
    subst h0
    go_enter Tryz.func62, Tryz.ntmps62
    go_wp2_with fail
    go_ret
    exact ⟨_, rfl, IntsAt.nil _ _, Below.refl _ _⟩
  | some ad =>
    obtain ⟨i0, hi, hz0, hz1, hz2⟩ := info_parts info3q
    go_enter Tryz.func62, Tryz.ntmps62
    have hle : (0 + l.length) * 8 ≤ 140737488355328 := by omega
    have hml : 0 + l.length ≤ maxLen := by simp only [maxLen]; omega
    have HON : Hid (∀ u ∈ ints l, u.oneCell' = true) := Lib.hid (by intro u hu; obtain ⟨x, _, rfl⟩ := List.mem_map.1 hu; rfl)
    have HE : Hid (World.ownsRow (w.alloc (.cells #[] 3)) w.heap.size 3 1 (.slice (some ⟨w.heap.size, 0, none⟩) 0 0) 0 []) := Lib.hid ⟨rfl, .inr ⟨w.heap.size, 0, #[], rfl, Nat.le_refl _, heap_alloc_new w _, Nat.le_refl _, Nat.zero_le _, rfl, rfl⟩⟩
    have hr2 : Rd (w.alloc (.cells #[] 3)) (w.alloc (.cells #[] 3)).heap.size (some ad) (ints l) := (HR.out.below ((Below.refl _ _).alloc (Nat.le_refl _) _)).more (by simp)
    have HR2 := Lib.hid hr2
    clear hr2
    go_wp2_with (at_builtin; go_loud (refine wpList_append_rd (w := w.alloc (.cells #[] 3)) rfl (.tmp 5) (.tmp 6) 27 rfl w.heap.size 3 i0 (.int .i64 0) 1 8 Tryz.underlying27 hi hz0 hz1 hz2 rfl (by omega) (.slice (some ⟨w.heap.size, 0, none⟩) 0 0) 0 [] rfl HE.out _ (some ad) l.length c (ints l) rfl (by rw [ints_length, Nat.mul_one]) HR2.out HON.out hml hle (by simp) ?_); intro v6 w6 ho6 hg6 _; have HO6 := Lib.hid ho6; have HG6 := Lib.hid hg6; clear ho6 hg6)
    go_ret
    have ho := HO6.out
    rw [List.nil_append, Nat.zero_add] at ho
    obtain ⟨A6, c6, rfl, -, -⟩ := own_form ho
    exact ⟨_, rfl, ⟨A6, c6, rfl, ho⟩, ((Below.refl w.heap.size w).alloc (Nat.le_refl _) _).grown HG6.out (by simp) (fun j hj => (HE.out.lt j hj).1)⟩
end Go.Proofs.YthgbmhpfblgjcaaGreatDoor.fl
