/-
  The contract of Live of package flow. Conditions: the function stands; the tables stand.
-/
import Derived.Test.YthgbmhpfblgjcaaGreatDoorFlU
import Derived.Test.YthgbmhpfblgjcaaGreatDoorFlJb
import Derived.Deep.Cut
import Derived.Deep.CutRange
import Derived.Deep.DeepCutAuto
set_option linter.unusedVariables false
set_option linter.unusedSimpArgs false
namespace Go.Proofs.YthgbmhpfblgjcaaGreatDoor.fl
open Go.RowKit Go.Shelf
open M T ty
set_option linter.unusedVariables false
def liveIn (rc : List Bool) (s : Ins) (b : Nat) : List Int := if rc[b]? = some true then list (inAt s b) else []
def liveOut (bl : List Bl) (rc : List Bool) (s : Ins) (b : Nat) : List Int :=
  match bl[b]? with
  | some x => if rc[b]? = some true then list (ends (once (exitTo x.ex)) x.ex s) else []
  | none => []
/-- the first i of n places are filled -/
def upTo (g : Nat → List Int) (n i : Nat) : List (List Int) := (List.range n).map fun j => if j < i then g j else []
theorem upTo_len (g : Nat → List Int) (n i : Nat) : (upTo g n i).length = n := by simp [upTo]
theorem upTo_zero (g : Nat → List Int) (n : Nat) : upTo g n 0 = List.replicate n [] := by
  apply List.ext_getElem?
  intro i
  by_cases hi : i < n
  · simp [upTo, List.getElem?_range hi, hi]
  · rw [List.getElem?_eq_none (by rw [upTo_len]; omega), List.getElem?_eq_none (by simp; omega)]
theorem upTo_all (g : Nat → List Int) (n : Nat) : upTo g n n = (List.range n).map g := by
  unfold upTo
  apply List.map_congr_left
  intro j hj
  rw [if_pos (List.mem_range.1 hj)]
theorem upTo_succ (g : Nat → List Int) (n i : Nat) (h : i < n) : upTo g n (i + 1) = (upTo g n i).set i (g i) := by
  apply List.ext_getElem?
  intro j
  rw [List.getElem?_set]
  by_cases hj : j < n
  · have e : ∀ k, (upTo g n k)[j]? = some (if j < k then g j else []) := fun k => by simp [upTo, List.getElem?_range hj]
    rw [e, e]
    by_cases hij : i = j
    · subst hij
      have hl : i < (upTo g n i).length := by rw [upTo_len]; exact h
      simp [hl]
    · rw [if_neg hij]
      by_cases h1 : j < i
      · rw [if_pos h1, if_pos (by omega)]
      · rw [if_neg h1, if_neg (by omega)]
  · rw [List.getElem?_eq_none (by rw [upTo_len]; omega)]
    split
    · omega
    · rw [List.getElem?_eq_none (by rw [upTo_len]; omega)]
theorem upTo_skip (g : Nat → List Int) (n i : Nat) (h : g i = []) : upTo g n (i + 1) = upTo g n i := by
  unfold upTo
  apply List.map_congr_left
  intro j hj
  by_cases h1 : j < i
  · rw [if_pos h1, if_pos (by omega)]
  · rw [if_neg h1]
    split
    · have : j = i := by omega
      rw [this, h]
    · rfl
/-- lists of numbers in memory, all in blocks of which P holds -/
structure RowsP (W : World) (P : Nat → Prop) (TA : Option Addr) (ls : List (List Int)) (A : Nat → Option Addr) (c : Nat → Nat) : Prop where
  row : 0 < ls.length → ∃ ad, TA = some ad ∧ P ad.block ∧ ∀ j l, ls[j]? = some l → W.cell? (ad.add j) = some (.slice (A j) l.length (c j))
  rd : ∀ j l, ls[j]? = some l → RdP W P (A j) (ints l)
theorem RowsP.keep {W W' : World} {P P' : Nat → Prop} {TA : Option Addr} {ls : List (List Int)} {A : Nat → Option Addr} {c : Nat → Nat} (h : RowsP W P TA ls A c) (hk : ∀ g, P g → P' g ∧ W'.heap[g]? = W.heap[g]?) : RowsP W' P' TA ls A c := by
  refine ⟨fun h0 => ?_, fun j l hj => (h.rd j l hj).keep hk⟩
  obtain ⟨ad, e, hb, hc⟩ := h.row h0
  exact ⟨ad, e, (hk _ hb).1, fun j l hj => (cell_of_heap (by rw [M.block_add]; exact (hk _ hb).2)).trans (hc j l hj)⟩
theorem RowsP.at {W : World} {P : Nat → Prop} {B : Nat} {TA : Option Addr} {ls : List (List Int)} {A : Nat → Option Addr} {c : Nat → Nat} (h : RowsP W P TA ls A c) (hP : ∀ g, P g → g < B) : RowsAt W B TA ls A c := by
  refine ⟨fun h0 => ?_, fun j l hj => (h.rd j l hj).rd hP⟩
  obtain ⟨ad, e, hb, hc⟩ := h.row h0
  exact ⟨ad, e, hP _ hb, hc⟩
theorem LRow.rowsP {W : World} {g : Nat} {P Q : Nat → Prop} {vs : List Value} {ls : List (List Int)} (h : LRow W g P vs ls) (hP : ∀ k, P k → Q k) (hg : Q g) : ∃ A c, RowsP W Q (.some ⟨g, 0, none⟩) ls A c := by
  refine ⟨fun j => match vs[j]? with | Option.some (Value.slice A _ _) => A | _ => none, fun j => match vs[j]? with | Option.some (Value.slice _ _ c) => c | _ => 0, fun h0 => ⟨_, rfl, hg, fun j l hj => ?_⟩, fun j l hj => ?_⟩
  · obtain ⟨A, c', e, hr⟩ := h.lst.get j l hj
    have e1 : Addr.add ⟨g, 0, none⟩ j = ⟨g, j, none⟩ := by unfold Addr.add; split <;> simp_all
    rw [e1, Go.Joins.cell_of_block h.row j, List.getElem?_toArray, e]
  · obtain ⟨A, c', e, hr⟩ := h.lst.get j l hj
    simp only [e]
    exact hr.keep fun k hk => ⟨hP k hk, rfl⟩
/-- the variables of Live stand: lives' rows gi, go, their head in block tb -/
structure EnvV (w1 W : World) (n tb gi go : Nat) (vi vo : List Value) (li lo : List (List Int)) : Prop where
  b0 : Below w1.heap.size w1 W
  head : W.heap[tb]? = some (.cells #[.slice (some ⟨gi, 0, none⟩) n n, .slice (some ⟨go, 0, none⟩) n n] 42 (0, 0))
  ii : LRow W gi (fun g => (w1.heap.size ≤ g ∧ g < W.heap.size) ∧ g ≠ gi ∧ g ≠ go) vi li
  oo : LRow W go (fun g => (w1.heap.size ≤ g ∧ g < W.heap.size) ∧ g ≠ gi ∧ g ≠ go) vo lo
  d1 : gi ≠ go
  d2 : tb ≠ gi
  d3 : tb ≠ go
  lo1 : w1.heap.size ≤ gi
  lo2 : w1.heap.size ≤ go
  l1 : li.length = n
  l2 : lo.length = n
section
variable {w1 W W' : World} {n tb gi go : Nat} {vi vo : List Value} {li lo : List (List Int)}
theorem EnvV.after (h : EnvV w1 W n tb gi go vi vo li lo) (hb : Below W.heap.size W W') : EnvV w1 W' n tb gi go vi vo li lo :=
  ⟨h.b0.trans (hb.mono h.b0.size), (hb.block _ (Array.getElem?_eq_some_iff.1 h.head).1).trans h.head,
    h.ii.keep (hb.block _ h.ii.lt) (fun g hg => ⟨⟨⟨hg.1.1, Nat.lt_of_lt_of_le hg.1.2 hb.size⟩, hg.2⟩, hb.block g hg.1.2⟩), h.oo.keep (hb.block _ h.oo.lt) (fun g hg => ⟨⟨⟨hg.1.1, Nat.lt_of_lt_of_le hg.1.2 hb.size⟩, hg.2⟩, hb.block g hg.1.2⟩), h.d1, h.d2, h.d3, h.lo1, h.lo2, h.l1, h.l2⟩
theorem EnvV.seti (h : EnvV w1 W n tb gi go vi vo li lo) {j : Nat} (hj : j < n) {A : Option Addr} {c : Nat} {l : List Int} (hr : RdP W (fun g => (w1.heap.size ≤ g ∧ g < W.heap.size) ∧ g ≠ gi ∧ g ≠ go) A (ints l)) :
    EnvV w1 (W.setCell ⟨gi, j, none⟩ (.slice A l.length c)) n tb gi go (vi.set j (Value.slice A l.length c)) vo (li.set j l) lo := by
  have hs := h.ii.set (j := j) (by rw [h.l1]; exact hj) (fun k hk => hk.2.1) (c := c) hr
  refine ⟨h.b0.setCell (p := ⟨gi, j, none⟩) h.lo1 _, (heap_other _ h.d2).trans h.head, ⟨hs.row, hs.lst.keep fun g hg => ⟨⟨⟨hg.1.1, by rw [World.size_setCell]; exact hg.1.2⟩, hg.2⟩, rfl⟩⟩, ?_, h.d1, h.d2, h.d3, h.lo1, h.lo2, by simpa using h.l1, h.l2⟩
  exact h.oo.keep (heap_other _ (Ne.symm h.d1)) (fun g hg => ⟨⟨⟨hg.1.1, by rw [World.size_setCell]; exact hg.1.2⟩, hg.2⟩, heap_other _ hg.2.1⟩)
theorem EnvV.seto (h : EnvV w1 W n tb gi go vi vo li lo) {j : Nat} (hj : j < n) {A : Option Addr} {c : Nat} {l : List Int} (hr : RdP W (fun g => (w1.heap.size ≤ g ∧ g < W.heap.size) ∧ g ≠ gi ∧ g ≠ go) A (ints l)) :
    EnvV w1 (W.setCell ⟨go, j, none⟩ (.slice A l.length c)) n tb gi go vi (vo.set j (Value.slice A l.length c)) li (lo.set j l) := by
  have hs := h.oo.set (j := j) (by rw [h.l2]; exact hj) (fun k hk => hk.2.2) (c := c) hr
  refine ⟨h.b0.setCell (p := ⟨go, j, none⟩) h.lo2 _, (heap_other _ h.d3).trans h.head, ?_, ⟨hs.row, hs.lst.keep fun g hg => ⟨⟨⟨hg.1.1, by rw [World.size_setCell]; exact hg.1.2⟩, hg.2⟩, rfl⟩⟩, h.d1, h.d2, h.d3, h.lo1, h.lo2, h.l1, by simpa using h.l2⟩
  exact h.ii.keep (heap_other _ h.d1) (fun g hg => ⟨⟨⟨hg.1.1, by rw [World.size_setCell]; exact hg.1.2⟩, hg.2⟩, heap_other _ hg.2.2⟩)
end
theorem EnvV.io {w1 W : World} {n tb gi go : Nat} {vi vo : List Value} {li lo : List (List Int)} (h : EnvV w1 W n tb gi go vi vo li lo) {j : Nat} (hj : j < n) {A A' : Option Addr} {c c' : Nat} {l l' : List Int} (hr : RdP W (fun g => (w1.heap.size ≤ g ∧ g < W.heap.size) ∧ g ≠ gi ∧ g ≠ go) A (ints l)) (hr' : RdP W (fun g => (w1.heap.size ≤ g ∧ g < W.heap.size) ∧ g ≠ gi ∧ g ≠ go) A' (ints l')) :
    EnvV w1 ((W.setCell ⟨gi, j, none⟩ (.slice A l.length c)).setCell ⟨go, j, none⟩ (.slice A' l'.length c')) n tb gi go (vi.set j (Value.slice A l.length c)) (vo.set j (Value.slice A' l'.length c')) (li.set j l) (lo.set j l') :=
  (h.seti hj hr).seto hj (hr'.keep fun g hg => ⟨⟨⟨hg.1.1, by rw [World.size_setCell]; exact hg.1.2⟩, hg.2⟩, heap_other _ hg.2.1⟩)
theorem EnvV.oi {w1 W : World} {n tb gi go : Nat} {vi vo : List Value} {li lo : List (List Int)} (h : EnvV w1 W n tb gi go vi vo li lo) {j : Nat} (hj : j < n) {A A' : Option Addr} {c c' : Nat} {l l' : List Int} (hr : RdP W (fun g => (w1.heap.size ≤ g ∧ g < W.heap.size) ∧ g ≠ gi ∧ g ≠ go) A (ints l)) (hr' : RdP W (fun g => (w1.heap.size ≤ g ∧ g < W.heap.size) ∧ g ≠ gi ∧ g ≠ go) A' (ints l')) :
    EnvV w1 ((W.setCell ⟨go, j, none⟩ (.slice A' l'.length c')).setCell ⟨gi, j, none⟩ (.slice A l.length c)) n tb gi go (vi.set j (Value.slice A l.length c)) (vo.set j (Value.slice A' l'.length c')) (li.set j l) (lo.set j l') :=
  (h.seto hj hr').seti hj (hr.keep fun g hg => ⟨⟨⟨hg.1.1, by rw [World.size_setCell]; exact hg.1.2⟩, hg.2⟩, heap_other _ hg.2.2⟩)
theorem first_of {p q : Prop} (h : p) (k : q) : p ∧ q := ⟨h, k⟩
section
variable (w : World) (a b c : Obj)
theorem al3_0 : (((w.alloc a).alloc b).alloc c).drew.heap[w.heap.size]? = some a := (heap_alloc_lt _ c (by simp; omega)).trans ((heap_alloc_lt _ b (by simp)).trans (heap_alloc_new w a))
theorem al3_1 : (((w.alloc a).alloc b).alloc c).drew.heap[w.heap.size + 1]? = some b := (heap_alloc_lt _ c (by simp)).trans (by have := heap_alloc_new (w.alloc a) b; rw [World.size_alloc] at this; exact this)
theorem al3_2 : (((w.alloc a).alloc b).alloc c).drew.heap[w.heap.size + 1 + 1]? = some c := by have := heap_alloc_new ((w.alloc a).alloc b) c; rw [World.size_alloc, World.size_alloc] at this; exact this
theorem al3_b : Below w.heap.size w (((w.alloc a).alloc b).alloc c).drew := ((((Below.refl _ _).alloc (Nat.le_refl _) _).alloc (by simp) _).alloc (by simp; omega) _).drew
end
set_option maxRecDepth 20000 in
set_option maxHeartbeats 8000000 in
theorem Live_11 (f : Fn) (L : FLay) (r : Nat) (w : World) (h : Stands w f L r) :
    Calls Tryz.prog 11 #[fnV f L] w fun e w' => ∃ rc s gi go Ai ci Ao co, e = .returned (.tuple #[.agg #[.slice (some ⟨gi, 0, none⟩) f.bl.length f.bl.length, .slice (some ⟨go, 0, none⟩) f.bl.length f.bl.length], .int .i64 0]) ∧ RowsP w' (fun g => w.heap.size ≤ g ∧ g < w'.heap.size) (some ⟨gi, 0, none⟩) ((List.range f.bl.length).map (liveIn rc s)) Ai ci ∧ RowsP w' (fun g => w.heap.size ≤ g ∧ g < w'.heap.size) (some ⟨go, 0, none⟩) ((List.range f.bl.length).map (liveOut f.bl rc s)) Ao co ∧
      Found (tos f.bl) (-1) 0 rc ∧ Lives (tos f.bl) f.bl rc s ∧ Below w.heap.size w w' := by
  have hb := h.boxed
  have hb2 := hb.after ((Below.refl _ _).alloc (Nat.le_refl _) (.cells #[.slice none 0 0, .slice none 0 0] 42))
  have HFD := Lib.hid (found_any f L r _ hb2)
  have HAL : Hid (Below w.heap.size w ((w.alloc (FObj f L)).alloc (.cells #[.slice none 0 0, .slice none 0 0] 42))) := Lib.hid (((Below.refl _ _).alloc (Nat.le_refl _) _).alloc (by simp) _)
  have HV : Hid (FBox ((w.alloc (FObj f L)).alloc (.cells #[.slice none 0 0, .slice none 0 0] 42)) w.heap.size f L) := Lib.hid ((heap_alloc_lt _ _ (by simp)).trans (heap_alloc_new w _))
  have HR9 : Hid (((w.alloc (FObj f L)).alloc (.cells #[.slice none 0 0, .slice none 0 0] 42)).heap[w.heap.size + 1]? = some (.cells #[.slice none 0 0, .slice none 0 0] 42 (0, 0))) := Lib.hid (by have := heap_alloc_new (w.alloc (FObj f L)) (.cells #[.slice none 0 0, .slice none 0 0] 42); rw [World.size_alloc] at this; exact this)
  have HST := Lib.hid h
  have hr4 := h.r4
  have HSS : Hid (∀ W, Below w.heap.size w W → Stands W f L r) := Lib.hid fun W hW => h.after hW
  have HREG := Lib.hid h.reg
  have hws2 := h.tabs.two
  have hbl4 : f.bl.length ≤ 4096 := h.good.b4
  have hbl5 : (f.bl.length : Int) ≤ 4096 := by omega
  clear h hb hb2
  obtain ⟨SA, sc, BA, bc, OA, oc, AA, ac⟩ := L
  unfold fnV at HFD ⊢
  unfold FObj at HFD HAL HV HR9
  simp only at HFD HAL HV HR9 ⊢
  go_enter Tryz.func11, Tryz.ntmps11
  go_wp2_with (go_at_call 22; go_loud (refine HFD.out.mono ?_); rintro e w1 ⟨lb, gb, G, rc, I, s, rfl, hlv, hfo, hli, hgb, hb1⟩; have hv1 : FBox w1 w.heap.size f ⟨SA, sc, BA, bc, OA, oc, AA, ac⟩ := (hb1.block _ (Array.getElem?_eq_some_iff.1 HV.out).1).trans HV.out; have hr1 := (hb1.block _ (Array.getElem?_eq_some_iff.1 HR9.out).1).trans HR9.out; obtain ⟨c0, c1, c2, c3, c4⟩ := hv1.cells; have HLV := Lib.hid hlv; have HFO := Lib.hid hfo; have HLI := Lib.hid hli; have HB1 := Lib.hid (HAL.out.trans (hb1.mono HAL.out.size)); have hgb2 := hgb; rw [World.size_alloc, World.size_alloc] at hgb2; have hlw := hlv.lt; have hgl := hlv.gr.lt; have HV1 := Lib.hid hv1; have HR1 := Lib.hid hr1; clear hlv hfo hli hb1 hv1 hgb hr1)
  have hmk := run_make_row' (P := Tryz.prog) 35 27 (.slice none 0 0) 24 Tryz.underlying35 info27 rfl .i64 .i64 f.bl.length (by omega) (by omega)
  have hcl : ∀ a, (w1.alloc a).cell? ⟨w.heap.size, 4, none⟩ = some (.slice BA f.bl.length bc) := fun a => (cell_of_heap (p := ⟨w.heap.size, 4, none⟩) (heap_alloc_lt w1 a (by have := hgb2; have := hgl; have := hlw; show w.heap.size < _; omega))).trans c4
  have hw12 := HB1.out.size
  have hfw : w.heap.size < w1.heap.size := by omega
  have HE0 : Hid (∀ wc tb gi go, tb ≠ gi → tb ≠ go → gi ≠ go → w1.heap.size ≤ gi → w1.heap.size ≤ go → Below w1.heap.size w1 wc → wc.heap[tb]? = some (.cells #[.slice (some ⟨gi, 0, none⟩) f.bl.length f.bl.length, .slice (some ⟨go, 0, none⟩) f.bl.length f.bl.length] 42 (0, 0)) → wc.heap[gi]? = some (.cells (madeCells #[Value.slice none 0 0] f.bl.length) 27 (0, 0)) → wc.heap[go]? = some (.cells (madeCells #[Value.slice none 0 0] f.bl.length) 27 (0, 0)) →
      EnvV w1 wc f.bl.length tb gi go (List.replicate f.bl.length nilV) (List.replicate f.bl.length nilV) (upTo (liveIn rc s) f.bl.length 0) (upTo (liveOut f.bl rc s) f.bl.length 0)) := Lib.hid fun wc tb gi go h1 h2 h3 h4 h5 h6 h7 h8 h9 => by
    rw [made_nil] at h8 h9
    rw [upTo_zero, upTo_zero]
    exact ⟨h6, h7, LRow.zeros _ h8, LRow.zeros _ h9, h3, h1, h2, h4, h5, by simp, by simp⟩
  go_cut [6] (fun s6 wc => ∃ tb gi go, s6 = .pointer (some ⟨tb, 0, none⟩) ∧ EnvV w1 wc f.bl.length tb gi go (List.replicate f.bl.length nilV) (List.replicate f.bl.length nilV) (upTo (liveIn rc s) f.bl.length 0) (upTo (liveOut f.bl rc s) f.bl.length 0))
  case first =>
    go_region
    all_goals
      go_wp2_with fail
      go_meet
      case rel =>
        first
        | exact ⟨w1.heap.size, (w1.heap.size + 1), (w1.heap.size + 1 + 1), rfl, HE0.out _ w1.heap.size (w1.heap.size + 1) (w1.heap.size + 1 + 1) (by omega) (by omega) (by omega) (by omega) (by omega) (al3_b w1 _ _ _) (al3_0 w1 _ _ _) (al3_1 w1 _ _ _) (al3_2 w1 _ _ _)⟩
        | exact ⟨w1.heap.size, (w1.heap.size + 1 + 1), (w1.heap.size + 1), rfl, HE0.out _ w1.heap.size (w1.heap.size + 1 + 1) (w1.heap.size + 1) (by omega) (by omega) (by omega) (by omega) (by omega) (al3_b w1 _ _ _) (al3_0 w1 _ _ _) (al3_2 w1 _ _ _) (al3_1 w1 _ _ _)⟩
        | exact ⟨(w1.heap.size + 1), w1.heap.size, (w1.heap.size + 1 + 1), rfl, HE0.out _ (w1.heap.size + 1) w1.heap.size (w1.heap.size + 1 + 1) (by omega) (by omega) (by omega) (by omega) (by omega) (al3_b w1 _ _ _) (al3_1 w1 _ _ _) (al3_0 w1 _ _ _) (al3_2 w1 _ _ _)⟩
        | exact ⟨(w1.heap.size + 1), (w1.heap.size + 1 + 1), w1.heap.size, rfl, HE0.out _ (w1.heap.size + 1) (w1.heap.size + 1 + 1) w1.heap.size (by omega) (by omega) (by omega) (by omega) (by omega) (al3_b w1 _ _ _) (al3_1 w1 _ _ _) (al3_2 w1 _ _ _) (al3_0 w1 _ _ _)⟩
        | exact ⟨(w1.heap.size + 1 + 1), w1.heap.size, (w1.heap.size + 1), rfl, HE0.out _ (w1.heap.size + 1 + 1) w1.heap.size (w1.heap.size + 1) (by omega) (by omega) (by omega) (by omega) (by omega) (al3_b w1 _ _ _) (al3_2 w1 _ _ _) (al3_0 w1 _ _ _) (al3_1 w1 _ _ _)⟩
        | exact ⟨(w1.heap.size + 1 + 1), (w1.heap.size + 1), w1.heap.size, rfl, HE0.out _ (w1.heap.size + 1 + 1) (w1.heap.size + 1) w1.heap.size (by omega) (by omega) (by omega) (by omega) (by omega) (al3_b w1 _ _ _) (al3_2 w1 _ _ _) (al3_1 w1 _ _ _) (al3_0 w1 _ _ _)⟩
  case rest =>
    obtain ⟨tb, gi, go, rfl, hv0⟩ := hcut
    have HE1 := Lib.hid hv0
    have d4 := (cell_of_heap (p := ⟨w.heap.size, 4, none⟩) (hv0.b0.block w.heap.size hfw)).trans c4
    clear hv0 HE0 hcl hmk c0 c1 c2 c3 c4
    go_wp2_with fail
    clear d4
    go_loopg [29] f.bl.length (fun N t wr => ∃ i vi vo, i ≤ f.bl.length ∧ N = f.bl.length - i ∧ t = .int .i64 i ∧ EnvV w1 wr f.bl.length tb gi go vi vo (upTo (liveIn rc s) f.bl.length i) (upTo (liveOut f.bl rc s) f.bl.length i))
    case atStart => exact ⟨0, _, _, by omega, rfl, rfl, HE1.out⟩
    case round =>
      obtain ⟨i, vi, vo, hi, rfl, rfl, he⟩ := hrel
      clear HE1
      have H := Lib.hid he
      by_cases hlti : i < f.bl.length
      · have hltI : (i : Int) < (f.bl.length : Int) := by omega
        have hlv := HLV.out.after he.b0
        obtain ⟨e0, e1, e2, e4, e5, e6⟩ := hlv.cells
        have hrl : rc.length = f.bl.length := hlv.gr.rlen
        have hri : rc[i]? = some rc[i] := List.getElem?_eq_getElem (by omega)
        have e8 := hlv.gr.rch.cell hri
        have hx : f.bl[i]? = some f.bl[i] := List.getElem?_eq_getElem hlti
        cases hrci : rc[i] with
        | false =>
          rw [hrci] at hri e8
          have hs1 : upTo (liveIn rc s) f.bl.length (i + 1) = upTo (liveIn rc s) f.bl.length i := upTo_skip _ _ _ (by unfold liveIn; rw [hri]; rfl)
          have hs2 : upTo (liveOut f.bl rc s) f.bl.length (i + 1) = upTo (liveOut f.bl rc s) f.bl.length i := upTo_skip _ _ _ (by unfold liveOut; rw [hx]; simp only; rw [hri]; rfl)
          have HS1 := Lib.hid hs1
          have HS2 := Lib.hid hs2
          clear he hlv hri hrci hx hs1 hs2
          go_wp2_with fail
          go_roundg (f.bl.length - (i + 1))
          case measure => omega
          case rel => exact ⟨i + 1, vi, vo, by omega, rfl, by go_num, by rw [HS1.out, HS2.out]; exact H.out⟩
        | true =>
          rw [hrci] at hri e8
          have hs1 : upTo (liveIn rc s) f.bl.length (i + 1) = (upTo (liveIn rc s) f.bl.length i).set i (list (inAt s i)) := by
            rw [upTo_succ _ _ _ hlti]
            unfold liveIn
            rw [if_pos hri]
          have hs2 : upTo (liveOut f.bl rc s) f.bl.length (i + 1) = (upTo (liveOut f.bl rc s) f.bl.length i).set i (list (ends (once (exitTo (f.bl[i]).ex)) (f.bl[i]).ex s)) := by
            rw [upTo_succ _ _ _ hlti]
            congr 1
            unfold liveOut
            rw [hx]
            simp only
            rw [if_pos hri]
          have HS1 := Lib.hid hs1
          have HS2 := Lib.hid hs2
          have hel := ends_lt hlv.ok (once (exitTo (f.bl[i]).ex)) (f.bl[i]).ex
          have HB36 := Lib.hid (fun W vi vo li lo (hE : EnvV w1 W f.bl.length tb gi go vi vo li lo) => end_36 lb gb f ⟨SA, sc, BA, bc, OA, oc, AA, ac⟩ G rc I r s W (HLV.out.after hE.b0) HST.out.good i f.bl[i] hx)
          have HIL := Lib.hid (inAt_lt hlv.ok (i : Int))
          have HEL := Lib.hid hel
          generalize ends (once (exitTo (f.bl[i]).ex)) (f.bl[i]).ex s = me at *
          have HL26 := Lib.hid (fun W b m vi vo li lo (hE : EnvV w1 W f.bl.length tb gi go vi vo li lo) (hs : SetAt W b m r) (hm : m < 2 ^ r) => list_any b m r W hr4 hm (HSS.out W (HB1.out.trans (hE.b0.mono hw12))).tabs hs)
          have KF : Hid (∀ (W : World) vi vo li lo, EnvV w1 W f.bl.length tb gi go vi vo li lo → W.cell? ⟨tb, 0, none⟩ = some (.slice (some ⟨gi, 0, none⟩) f.bl.length f.bl.length) ∧ W.cell? ⟨tb, 1, none⟩ = some (.slice (some ⟨go, 0, none⟩) f.bl.length f.bl.length) ∧ W.cell? ⟨lb, 1, none⟩ = some (.slice (some ⟨I.ib, 0, none⟩) f.bl.length I.ic) ∧ W.cell? ⟨I.ib, i, none⟩ = some (.pointer (some ⟨I.sb i, 0, none⟩))) := Lib.hid fun W vi vo li lo hE =>
            ⟨Go.Joins.cell_of_block hE.head 0, Go.Joins.cell_of_block hE.head 1, (HLV.out.after hE.b0).cells.2.1, (HLV.out.after hE.b0).row i hlti⟩
          have HVC : Hid (∀ (W : World) vi vo li lo, EnvV w1 W f.bl.length tb gi go vi vo li lo → li.length = f.bl.length → (∃ v, W.cell? ⟨gi, i, none⟩ = some v) ∧ (∃ v, W.cell? ⟨go, i, none⟩ = some v) ∧ W.frozen? ⟨gi, i, none⟩ = false ∧ W.frozen? ⟨go, i, none⟩ = false) := Lib.hid fun W vi vo li lo hE _ =>
            ⟨hE.ii.some (by rw [hE.l1]; exact hlti), hE.oo.some (by rw [hE.l2]; exact hlti), Go.Joins.unfrozen_of_block hE.ii.row i, Go.Joins.unfrozen_of_block hE.oo.row i⟩
          have hgo1 := he.d1
          have hgo2 := Ne.symm he.d1
          have SI := Lib.hid (show SetAt wr.drew (I.sb i) (inAt s i) r from hlv.inAt_set hlti)
          have E := Lib.hid (he.after ((Below.refl wr.heap.size wr).drew))
          have K0 := Lib.hid (KF.out _ _ _ _ _ E.out)
          have hgil := he.ii.lt
          have hgol := he.oo.lt
          clear he hlv hri hrci hx hs1 hs2 hel
          go_upto_region 9 with fail
          obtain ⟨⟨x1, y1⟩, ⟨x2, y2⟩, y3, y4⟩ := HVC.out _ _ _ _ _ H.out H.out.l1
          go_region_held3 (fun W => W.cell? ⟨tb, 0, none⟩ = some (.slice (some ⟨gi, 0, none⟩) f.bl.length f.bl.length) ∧ W.cell? ⟨tb, 1, none⟩ = some (.slice (some ⟨go, 0, none⟩) f.bl.length f.bl.length) ∧ W.cell? ⟨lb, 1, none⟩ = some (.slice (some ⟨I.ib, 0, none⟩) f.bl.length I.ic) ∧ W.cell? ⟨I.ib, i, none⟩ = some (.pointer (some ⟨I.sb i, 0, none⟩)))
            (first | exact K0.out | exact KF.out _ _ _ _ _ (E.out.seti hlti RA.out) | exact KF.out _ _ _ _ _ (E.out.seto hlti RC.out) | exact KF.out _ _ _ _ _ (E.out.io hlti RA.out RC.out) | exact KF.out _ _ _ _ _ (E.out.oi hlti RA.out RC.out))
            (first
              | (go_at_call 36; refine (HB36.out _ _ _ _ _ E.out).mono ?_; rintro e wB ⟨rfl, hbB, hsB⟩; (try rw [show wr.drew.heap.size = wr.heap.size from rfl] at hsB); (try replace SI := Lib.hid (show SetAt wB (I.sb i) (inAt s i) r from (hbB.block _ (Array.getElem?_eq_some_iff.1 SI.out).1).trans SI.out)); replace E := Lib.hid (E.out.after hbB); have SO := Lib.hid hsB; (try replace RA := Lib.hid (RA.out.keep (W' := wB) (P' := fun g => (w1.heap.size ≤ g ∧ g < wB.heap.size) ∧ g ≠ gi ∧ g ≠ go) (fun g hg => ⟨⟨⟨hg.1.1, Nat.lt_of_lt_of_le hg.1.2 hbB.size⟩, hg.2⟩, hbB.block g hg.1.2⟩))); replace K0 := Lib.hid (KF.out _ _ _ _ _ E.out); (clear y1 y2 y3 y4); obtain ⟨⟨x1, y1⟩, ⟨x2, y2⟩, y3, y4⟩ := HVC.out _ _ _ _ _ E.out E.out.l1; clear hbB hsB)
              | (go_at_call 26; refine (HL26.out _ (I.sb i) (inAt s i) _ _ _ _ E.out SI.out HIL.out).mono ?_; rintro e wA ⟨vA, rfl, hvA, hbA⟩; obtain ⟨AA1, cA1, rfl, hoA⟩ := hvA; have RA := Lib.hid ((RdP.of_own hoA).keep (W' := wA) (P' := fun g => (w1.heap.size ≤ g ∧ g < wA.heap.size) ∧ g ≠ gi ∧ g ≠ go) (fun g hg => ⟨⟨⟨Nat.le_trans E.out.b0.size hg.1, hg.2⟩, by have := E.out.ii.lt; omega, by have := E.out.oo.lt; omega⟩, rfl⟩)); (try replace RC := Lib.hid (RC.out.keep (W' := wA) (P' := fun g => (w1.heap.size ≤ g ∧ g < wA.heap.size) ∧ g ≠ gi ∧ g ≠ go) (fun g hg => ⟨⟨⟨hg.1.1, Nat.lt_of_lt_of_le hg.1.2 hbA.size⟩, hg.2⟩, hbA.block g hg.1.2⟩))); (try replace SO := Lib.hid (show SetAt wA _ me r from (hbA.block _ (Array.getElem?_eq_some_iff.1 SO.out).1).trans SO.out)); replace E := Lib.hid (E.out.after hbA); replace K0 := Lib.hid (KF.out _ _ _ _ _ E.out); (clear y1 y2 y3 y4); obtain ⟨⟨x1, y1⟩, ⟨x2, y2⟩, y3, y4⟩ := HVC.out _ _ _ _ _ E.out E.out.l1; clear hbA hoA SI)
              | (go_at_call 26; refine (HL26.out _ _ me _ _ _ _ E.out SO.out HEL.out).mono ?_; rintro e wC ⟨vC, rfl, hvC, hbC⟩; obtain ⟨AC1, cC1, rfl, hoC⟩ := hvC; have RC := Lib.hid ((RdP.of_own hoC).keep (W' := wC) (P' := fun g => (w1.heap.size ≤ g ∧ g < wC.heap.size) ∧ g ≠ gi ∧ g ≠ go) (fun g hg => ⟨⟨⟨Nat.le_trans E.out.b0.size hg.1, hg.2⟩, by have := E.out.ii.lt; omega, by have := E.out.oo.lt; omega⟩, rfl⟩)); (try replace RA := Lib.hid (RA.out.keep (W' := wC) (P' := fun g => (w1.heap.size ≤ g ∧ g < wC.heap.size) ∧ g ≠ gi ∧ g ≠ go) (fun g hg => ⟨⟨⟨hg.1.1, Nat.lt_of_lt_of_le hg.1.2 hbC.size⟩, hg.2⟩, hbC.block g hg.1.2⟩))); (try replace SI := Lib.hid (show SetAt wC (I.sb i) (inAt s i) r from (hbC.block _ (Array.getElem?_eq_some_iff.1 SI.out).1).trans SI.out)); replace E := Lib.hid (E.out.after hbC); replace K0 := Lib.hid (KF.out _ _ _ _ _ E.out); (clear y1 y2 y3 y4); obtain ⟨⟨x1, y1⟩, ⟨x2, y2⟩, y3, y4⟩ := HVC.out _ _ _ _ _ E.out E.out.l1; clear hbC hoC SO))
          all_goals
            have HN := Lib.hid (first_of (E.out.io hlti (c := cA1) (c' := cC1) RA.out RC.out) (E.out.oi hlti (c := cA1) (c' := cC1) RA.out RC.out))
            go_wp2_with fail
            go_roundg (f.bl.length - (i + 1))
            case measure => omega
            case rel => exact ⟨i + 1, _, _, by omega, rfl, by go_num, by rw [HS1.out, HS2.out]; first | exact HN.out.1 | exact HN.out.2⟩
      · obtain rfl : i = f.bl.length := by omega
        have d0 := Go.Joins.cell_of_block he.head 0
        have d1 := Go.Joins.cell_of_block he.head 1
        have hr2 := (he.b0.block (w.heap.size + 1) (by omega)).trans HR1.out
        have r0 := Go.Joins.cell_of_block hr2 0
        have r1 := Go.Joins.cell_of_block hr2 1
        have g0 := Go.Joins.unfrozen_of_block hr2 0
        have g1 := Go.Joins.unfrozen_of_block hr2 1
        have hsz := he.b0.size
        have hg1 := he.lo1
        have hg2 := he.lo2
        have HFIN : Hid (∀ u v, (∃ Ai ci, RowsP ((wr.setCell ⟨w.heap.size + 1, 0, none⟩ u).setCell ⟨w.heap.size + 1, 1, none⟩ v) (fun g => w.heap.size ≤ g ∧ g < wr.heap.size) (some ⟨gi, 0, none⟩) ((List.range f.bl.length).map (liveIn rc s)) Ai ci) ∧ ∃ Ao co, RowsP ((wr.setCell ⟨w.heap.size + 1, 0, none⟩ u).setCell ⟨w.heap.size + 1, 1, none⟩ v) (fun g => w.heap.size ≤ g ∧ g < wr.heap.size) (some ⟨go, 0, none⟩) ((List.range f.bl.length).map (liveOut f.bl rc s)) Ao co) := Lib.hid fun u v => by
          have hk : ∀ g, g ≠ w.heap.size + 1 → ((wr.setCell ⟨w.heap.size + 1, 0, none⟩ u).setCell ⟨w.heap.size + 1, 1, none⟩ v).heap[g]? = wr.heap[g]? := fun g hg => (heap_other v hg).trans (heap_other u hg)
          have h1 := (he.ii.keep (P' := fun g => w.heap.size ≤ g ∧ g < wr.heap.size) (hk gi (by omega)) (fun g hg => ⟨⟨by omega, hg.1.2⟩, hk g (by omega)⟩)).rowsP (Q := fun g => w.heap.size ≤ g ∧ g < wr.heap.size) (fun g hg => hg) ⟨by omega, he.ii.lt⟩
          have h2 := (he.oo.keep (P' := fun g => w.heap.size ≤ g ∧ g < wr.heap.size) (hk go (by omega)) (fun g hg => ⟨⟨by omega, hg.1.2⟩, hk g (by omega)⟩)).rowsP (Q := fun g => w.heap.size ≤ g ∧ g < wr.heap.size) (fun g hg => hg) ⟨by omega, he.oo.lt⟩
          rw [upTo_all] at h1 h2
          exact ⟨h1, h2⟩
        have HBF := Lib.hid (HB1.out.trans (he.b0.mono hw12))
        clear he hr2
        go_wp2_with fail
        try simp only [Exit.inBlock, Exit.then]
        refine bodyPost_ret (v := .tuple #[.agg #[.slice (some ⟨gi, 0, none⟩) f.bl.length f.bl.length, .slice (some ⟨go, 0, none⟩) f.bl.length f.bl.length], .int .i64 0]) (by rw [results_cell_tmp rfl]; go_simp) rfl ?_
        obtain ⟨⟨Ai, ci, h1⟩, Ao, co, h2⟩ := HFIN.out (.slice (some ⟨gi, 0, none⟩) f.bl.length f.bl.length) (.slice (some ⟨go, 0, none⟩) f.bl.length f.bl.length)
        have hse : ((wr.setCell ⟨w.heap.size + 1, 0, none⟩ (.slice (some ⟨gi, 0, none⟩) f.bl.length f.bl.length)).setCell ⟨w.heap.size + 1, 1, none⟩ (.slice (some ⟨go, 0, none⟩) f.bl.length f.bl.length)).heap.size = wr.heap.size := by rw [World.size_setCell, World.size_setCell]
        refine ⟨rc, s, gi, go, Ai, ci, Ao, co, rfl, by rw [hse]; exact h1, by rw [hse]; exact h2, HFO.out, HLI.out, (HBF.out.setCell (p := ⟨w.heap.size + 1, 0, none⟩) (Nat.le_succ _) _).setCell (p := ⟨w.heap.size + 1, 1, none⟩) (Nat.le_succ _) _⟩
end Go.Proofs.YthgbmhpfblgjcaaGreatDoor.fl
