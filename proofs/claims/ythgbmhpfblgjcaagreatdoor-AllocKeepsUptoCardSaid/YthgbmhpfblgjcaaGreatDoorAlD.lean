/-
  The contract of known of package alloc. Condition: the function stands.
-/
import Derived.Test.YthgbmhpfblgjcaaGreatDoorAlB
import Derived.Test.YthgbmhpfblgjcaaGreatDoorAlC
set_option linter.unusedVariables false
set_option linter.unusedSimpArgs false
namespace Go.Proofs.YthgbmhpfblgjcaaGreatDoor.fl
open Go.RowKit Go.Shelf
open M T ty
set_option linter.unusedVariables false
theorem info84 : (Tryz.prog.info? 84).map (fun i => (i.zero, i.size, i.bytes)) = some (some (.slice none 0 0), 1, 24) := by kernel_rfl
def firsts (r i : Nat) : List Bool := (List.range r).map fun j : Nat => decide (j < i)
theorem firsts_length (r i : Nat) : (firsts r i).length = r := by simp [firsts]
theorem firsts_get {r i j : Nat} (h : j < r) : (firsts r i)[j]? = some (decide (j < i)) := by simp [firsts, List.getElem?_range h]
theorem firsts_zero (r : Nat) : firsts r 0 = List.replicate r false := by
  apply List.ext_getElem?
  intro j
  by_cases hj : j < r
  · rw [firsts_get hj, List.getElem?_replicate, if_pos hj]; simp
  · rw [List.getElem?_eq_none (by rw [firsts_length]; omega), List.getElem?_eq_none (by simp; omega)]
theorem firsts_all (r : Nat) : firsts r r = nots r [] := by
  rw [nots_nil]
  apply List.ext_getElem?
  intro j
  by_cases hj : j < r
  · rw [firsts_get hj, List.getElem?_replicate, if_pos hj]; simp [hj]
  · rw [List.getElem?_eq_none (by rw [firsts_length]; omega), List.getElem?_eq_none (by simp; omega)]
theorem firsts_succ {r i : Nat} (h : i < r) : firsts r (i + 1) = (firsts r i).set i true := by
  apply List.ext_getElem?
  intro j
  rw [List.getElem?_set]
  by_cases hj : j < r
  · rw [firsts_get hj, firsts_get hj]
    by_cases e : i = j
    · subst e
      rw [if_pos rfl, if_pos (by rw [firsts_length]; exact h)]
      simp
    · rw [if_neg e]
      congr 1
      rw [decide_eq_decide]
      omega
  · rw [List.getElem?_eq_none (by rw [firsts_length]; omega)]
    split
    · omega
    · rw [List.getElem?_eq_none (by rw [firsts_length]; omega)]
/-- the facts as they are made -/
structure KnS (w1 W : World) (kb nb ab r : Nat) : Prop where
  b0 : Below w1.heap.size w1 W
  head : W.heap[kb]? = some (.cells #[.slice none 0 0, .slice (some ⟨nb, 0, none⟩) r r, .slice (some ⟨ab, 0, none⟩) r r, .slice none 0 0] 98 (0, 0))
  n : BoolsAt W nb (List.replicate r false)
  a : BoolsAt W ab (List.replicate r false)
  l : w1.heap.size ≤ kb ∧ w1.heap.size ≤ nb ∧ w1.heap.size ≤ ab
  dn : nb ≠ ab
section
variable {w w1 W W' : World} {kb nb ab r : Nat}
theorem KnS.kl (h : KnS w1 W kb nb ab r) : kb < W.heap.size := (Array.getElem?_eq_some_iff.1 h.head).1
theorem KnS.after (h : KnS w1 W kb nb ab r) (hb : Below W.heap.size W W') : KnS w1 W' kb nb ab r :=
  ⟨h.b0.trans (hb.mono h.b0.size), (hb.block kb h.kl).trans h.head, h.n.below hb h.n.lt, h.a.below hb h.a.lt, h.l, h.dn⟩
theorem KnS.ne (h : KnS w1 W kb nb ab r) : kb ≠ nb ∧ kb ≠ ab := by
  constructor
  all_goals
    intro e
    have h1 := h.head
    have h2 := h.n
    have h3 := h.a
    rw [e] at h1
    first
    | (have := h1.symm.trans h2; simp at this; done)
    | (have := h1.symm.trans h3; simp at this; done)
theorem KnS.start (h : KnS w1 W kb nb ab r) (hw : Below w.heap.size w w1) (g : Nat) : EnvKn w (W.setCell ⟨kb, 0, none⟩ (.slice (some ⟨g, 0, none⟩) r r)) (W.setCell ⟨kb, 0, none⟩ (.slice (some ⟨g, 0, none⟩) r r)) kb nb ab g r W.heap.size (.slice none 0 0) (firsts r 0) (List.replicate r false) [] [] := by
  have hs := hw.size
  have hl := h.l
  refine ⟨(hw.trans (h.b0.mono hs)).setCell (p := ⟨kb, 0, none⟩) (by show w.heap.size ≤ kb; omega) _, Nat.le_refl _, fun _ _ _ _ _ _ => rfl, ?_, ?_, (heap_other _ (Ne.symm h.ne.2)).trans h.a, MatAt.nil _ _ _, ⟨by omega, by omega, by omega⟩, ⟨h.kl, h.n.lt, h.a.lt⟩, h.dn⟩
  · rw [heap_set (o := 0) h.head]
    rfl
  · rw [firsts_zero]
    exact (heap_other _ (Ne.symm h.ne.1)).trans h.n
end
theorem EnvKn.mcell {w0 w1 W : World} {kb nb ab g r lo : Nat} {A : Option Addr} {n c : Nat} {nv ac : List Bool} {wb : List Nat} {L : Prs} (h : EnvKn w0 w1 W kb nb ab g r lo (.slice A n c) nv ac wb L) {a b : Nat} (hb : wb[a]? = some b) (hn : n = wb.length) : ∃ y, A = some ⟨y, 0, none⟩ ∧ W.cell? ⟨y, a, none⟩ = some (.slice (some ⟨b, 0, none⟩) r r) := by
  have hl := (List.getElem?_eq_some_iff.1 hb).1
  have ho := h.m.own
  subst hn
  obtain ⟨y, e, -, -, hc⟩ := own_at ho (by omega)
  exact ⟨y, e, hc a _ (by rw [List.getElem?_map, hb]; rfl)⟩
theorem EnvKn.notin {w0 w1 W : World} {kb nb ab g r lo : Nat} {v : Value} {nv ac : List Bool} {wb : List Nat} {L : Prs} (h : EnvKn w0 w1 W kb nb ab g r lo v nv ac wb L) : W.heap.size ∉ wb := fun hm => by
  obtain ⟨i, hi, e⟩ := List.mem_iff_getElem.1 hm
  have := (h.m.row i W.heap.size (by rw [List.getElem?_eq_getElem hi, e])).1.lt
  omega
def KnownP (f : Fn) (r : Nat) (w : World) (e : Ending) (w' : World) : Prop := ∃ rc s F, e = .returned (.tuple #[kV F r, .int .i64 0]) ∧ KAt w' w'.heap.size F (clK f rc s) (nots r (needs f.bl rc s f.bl.length)) (marks r (acL f rc s (anl f rc s r f.bl.length))) (wdL f rc s r (anl f rc s r f.bl.length)) r ∧ Found (tos f.bl) (-1) 0 rc ∧ Lives (tos f.bl) f.bl rc s ∧ (∀ k, clash f.params.toNat f.bl rc s k < 2 ^ r) ∧ Below w.heap.size w w'
set_option maxRecDepth 20000 in
set_option maxHeartbeats 16000000 in
theorem known_38 (f : Fn) (L : FLay) (r : Nat) (w : World) (h : Stands w f L r) :
    Calls Tryz.prog 38 #[fnV f L] w (KnownP f r w) := by
  have hb := h.boxed
  have hb2 := hb.after ((Below.refl _ _).alloc (Nat.le_refl _) (.cells #[.slice none 0 0, .slice none 0 0, .slice none 0 0, .slice none 0 0] 98))
  have HCF := Lib.hid (CheckFunc_58 f L _ hb2.fn hb2.tabs.keys (by have := hb2.fits.name; simp only [maxLen]; omega) hb2.fits.fit)
  rw [hb2.ok, if_pos rfl] at HCF
  have HAL : Hid (Below w.heap.size w ((w.alloc (FObj f L)).alloc (.cells #[.slice none 0 0, .slice none 0 0, .slice none 0 0, .slice none 0 0] 98))) := Lib.hid (((Below.refl _ _).alloc (Nat.le_refl _) _).alloc (by simp) _)
  have HV : Hid (FBox ((w.alloc (FObj f L)).alloc (.cells #[.slice none 0 0, .slice none 0 0, .slice none 0 0, .slice none 0 0] 98)) w.heap.size f L) := Lib.hid ((heap_alloc_lt _ _ (by simp)).trans (heap_alloc_new w _))
  have HR9 : Hid (((w.alloc (FObj f L)).alloc (.cells #[.slice none 0 0, .slice none 0 0, .slice none 0 0, .slice none 0 0] 98)).heap[w.heap.size + 1]? = some (.cells #[.slice none 0 0, .slice none 0 0, .slice none 0 0, .slice none 0 0] 98 (0, 0))) := Lib.hid (by have := heap_alloc_new (w.alloc (FObj f L)) (.cells #[.slice none 0 0, .slice none 0 0, .slice none 0 0, .slice none 0 0] 98); rw [World.size_alloc] at this; exact this)
  have HST := Lib.hid h
  have hr4 := h.r4
  have hrI : (r : Int) ≤ 4096 := by omega
  have HSS : Hid (∀ W, Below w.heap.size w W → Stands W f L r) := Lib.hid fun W hW => h.after hW
  have HREG := Lib.hid h.reg
  have hbl4 : f.bl.length ≤ 4096 := h.good.b4
  have hbl5 : (f.bl.length : Int) ≤ 4096 := by omega
  clear h hb hb2
  obtain ⟨SA, sc, BA, bc, OA, oc, AA, ac⟩ := L
  unfold fnV at HCF ⊢
  unfold FObj at HCF HAL HV HR9
  simp only at HCF HAL HV HR9 ⊢
  go_enter Tryz.func38, Tryz.ntmps38
  go_wp2_with (go_at_call 58; go_loud ((refine HCF.out.mono ?_; rintro e w1 ⟨rfl, hb1⟩; have hv1 : FBox w1 w.heap.size f ⟨SA, sc, BA, bc, OA, oc, AA, ac⟩ := HV.out.after hb1; have hr1 := (hb1.block (w.heap.size + 1) (by simp)).trans HR9.out; obtain ⟨c0, c1, c2, c3, c4⟩ := hv1.cells; rw [HREG.out] at c2; have hw2 : w.heap.size + 1 < w1.heap.size := (Array.getElem?_eq_some_iff.1 hr1).1; have HB1 := Lib.hid (HAL.out.trans (hb1.mono HAL.out.size)); have HV1 := Lib.hid hv1; have HR1 := Lib.hid hr1; clear hb1 hv1 hr1)))
  have hmk := run_make_row' (P := Tryz.prog) 84 4 (.bool false) 1 Tryz.underlying84 info4 rfl .i64 .i64 r (by omega) (by omega)
  have hcl : ∀ a, (w1.alloc a).cell? ⟨w.heap.size, 2, none⟩ = some (.int .i64 (r : Int)) := fun a => (cell_of_heap (p := ⟨w.heap.size, 2, none⟩) (heap_alloc_lt w1 a (show w.heap.size < _ by omega))).trans c2
  have hcl2 : ∀ a b, ((w1.alloc a).alloc b).cell? ⟨w.heap.size, 2, none⟩ = some (.int .i64 (r : Int)) := fun a b => (cell_of_heap (p := ⟨w.heap.size, 2, none⟩) (heap_alloc_lt _ b (show w.heap.size < _ by simp; omega))).trans (hcl a)
  have HE0 : Hid (∀ wc kb nb ab, nb ≠ ab → w1.heap.size ≤ kb → w1.heap.size ≤ nb → w1.heap.size ≤ ab → Below w1.heap.size w1 wc → wc.heap[kb]? = some (.cells #[.slice none 0 0, .slice (some ⟨nb, 0, none⟩) r r, .slice (some ⟨ab, 0, none⟩) r r, .slice none 0 0] 98 (0, 0)) → wc.heap[nb]? = some (.cells (madeCells #[Value.bool false] r) 4 (0, 0)) → wc.heap[ab]? = some (.cells (madeCells #[Value.bool false] r) 4 (0, 0)) → KnS w1 wc kb nb ab r) := Lib.hid fun wc kb nb ab h1 h2 h3 h4 h5 h6 h7 h8 => by
    rw [made_false] at h7 h8
    exact ⟨h5, h6, h7, h8, ⟨h2, h3, h4⟩, h1⟩
  go_cut [5] (fun s5 wc => ∃ kb nb ab, s5 = .pointer (some ⟨kb, 0, none⟩) ∧ KnS w1 wc kb nb ab r)
  case first =>
    go_region
    all_goals
      go_wp2_with fail
      go_meet
      case rel =>
        first
        | exact ⟨_, _, _, rfl, HE0.out _ w1.heap.size (w1.heap.size + 1) (w1.heap.size + 1 + 1) (by omega) (by omega) (by omega) (by omega) (al3_b w1 _ _ _) (al3_0 w1 _ _ _) (al3_1 w1 _ _ _) (al3_2 w1 _ _ _)⟩
        | exact ⟨_, _, _, rfl, HE0.out _ w1.heap.size (w1.heap.size + 1 + 1) (w1.heap.size + 1) (by omega) (by omega) (by omega) (by omega) (al3_b w1 _ _ _) (al3_0 w1 _ _ _) (al3_2 w1 _ _ _) (al3_1 w1 _ _ _)⟩
        | exact ⟨_, _, _, rfl, HE0.out _ (w1.heap.size + 1) w1.heap.size (w1.heap.size + 1 + 1) (by omega) (by omega) (by omega) (by omega) (al3_b w1 _ _ _) (al3_1 w1 _ _ _) (al3_0 w1 _ _ _) (al3_2 w1 _ _ _)⟩
        | exact ⟨_, _, _, rfl, HE0.out _ (w1.heap.size + 1) (w1.heap.size + 1 + 1) w1.heap.size (by omega) (by omega) (by omega) (by omega) (al3_b w1 _ _ _) (al3_1 w1 _ _ _) (al3_2 w1 _ _ _) (al3_0 w1 _ _ _)⟩
        | exact ⟨_, _, _, rfl, HE0.out _ (w1.heap.size + 1 + 1) w1.heap.size (w1.heap.size + 1) (by omega) (by omega) (by omega) (by omega) (al3_b w1 _ _ _) (al3_2 w1 _ _ _) (al3_0 w1 _ _ _) (al3_1 w1 _ _ _)⟩
        | exact ⟨_, _, _, rfl, HE0.out _ (w1.heap.size + 1 + 1) (w1.heap.size + 1) w1.heap.size (by omega) (by omega) (by omega) (by omega) (al3_b w1 _ _ _) (al3_2 w1 _ _ _) (al3_1 w1 _ _ _) (al3_0 w1 _ _ _)⟩
  case rest =>
    obtain ⟨kb, nb, ab, rfl, hk0⟩ := hcut
    have hl := hk0.l
    have hv0 : FBox wc w.heap.size f ⟨SA, sc, BA, bc, OA, oc, AA, ac⟩ := (hk0.b0.block w.heap.size (by omega)).trans HV1.out
    obtain ⟨d0, d1, d2, d3, d4⟩ := hv0.cells
    have hbc := HB1.out.trans (hk0.b0.mono HB1.out.size)
    have HCL := Lib.hid (Clash_9x f ⟨SA, sc, BA, bc, OA, oc, AA, ac⟩ r wc (HSS.out _ hbc))
    unfold fnV at HCL
    simp only at HCL
    have HK0 := Lib.hid hk0
    have HV0 := Lib.hid hv0
    have hwc := hk0.b0.size
    have hkbw : kb ≠ w.heap.size := by omega
    clear hk0 hv0 HE0 hcl hcl2 c0 c1 c2 c3 c4 hbc
    go_wp2_with (go_at_call 9; go_loud ((refine HCL.out.mono ?_; rintro e w2 ⟨rc, s, g, A, c, rfl, hrows, hfo, hli, hclt, hb2⟩; have hk2 := HK0.out.after hb2; have k0 := Go.Joins.cell_of_block hk2.head 0; have kf := Go.Joins.unfrozen_of_block hk2.head 0; have hv2 := FBox.after HV0.out hb2; obtain ⟨e0, e1, e2, e3, e4⟩ := hv2.cells; rw [HREG.out] at e2; have HV2 := Lib.hid hv2; have HK2 := Lib.hid hk2; have HB2 := Lib.hid hb2; have HROWS := Lib.hid hrows; have HFO := Lib.hid hfo; have HLI := Lib.hid hli; have HCLT := Lib.hid hclt; clear hrows hfo hli hclt hb2 hk2 hv2 d0 d1 d2 d3 d4)))
    have HE1 := Lib.hid (HK2.out.start HB1.out g)
    have HSZ3 : Hid ((w2.setCell ⟨kb, 0, none⟩ (.slice (some ⟨g, 0, none⟩) r r)).heap.size = w2.heap.size) := Lib.hid (World.size_setCell _ _ _)
    have hkl0 := HK0.out.kl
    have hwc2 := HB2.out.size
    have HROW3 : Hid (RowsP (w2.setCell ⟨kb, 0, none⟩ (.slice (some ⟨g, 0, none⟩) r r)) (fun k => wc.heap.size ≤ k ∧ k < w2.heap.size) (some ⟨g, 0, none⟩) ((List.range r).map fun k => list (clash f.params.toNat f.bl rc s k)) A c) := Lib.hid (HROWS.out.keep fun k hk => ⟨hk, heap_other _ (by omega)⟩)
    have HFB3 : Hid (FBox (w2.setCell ⟨kb, 0, none⟩ (.slice (some ⟨g, 0, none⟩) r r)) w.heap.size f ⟨SA, sc, BA, bc, OA, oc, AA, ac⟩) := Lib.hid ((heap_other _ (Ne.symm hkbw)).trans HV2.out)
    have HR93 : Hid ((w2.setCell ⟨kb, 0, none⟩ (.slice (some ⟨g, 0, none⟩) r r)).heap[w.heap.size + 1]? = some (.cells #[.slice none 0 0, .slice none 0 0, .slice none 0 0, .slice none 0 0] 98 (0, 0))) := Lib.hid ((heap_other _ (by omega)).trans ((HB2.out.block _ (by omega)).trans ((HK0.out.b0.block _ (by omega)).trans HR1.out)))
    clear e0 e1 e2 e3 e4 k0 kf
    generalize w2.setCell ⟨kb, 0, none⟩ (.slice (some ⟨g, 0, none⟩) r r) = W3 at *
    have hl2 := HK0.out.l
    have hnl0 := HK0.out.n.lt
    have hal0 := HK0.out.a.lt
    generalize hlo : w2.heap.size = lo at *
    have HFB : Hid (∀ W v nv acc wb L, EnvKn w W3 W kb nb ab g r lo v nv acc wb L → FBox W w.heap.size f ⟨SA, sc, BA, bc, OA, oc, AA, ac⟩ ∧ W.heap[w.heap.size + 1]? = some (.cells #[.slice none 0 0, .slice none 0 0, .slice none 0 0, .slice none 0 0] 98 (0, 0))) := Lib.hid fun W v nv acc wb L he => by
      have hs3 := HSZ3.out
      constructor
      · exact (he.fr w.heap.size (by omega) (by omega) (by omega) (by omega) (fun hm => by have := he.rows hm; omega)).trans HFB3.out
      · exact (he.fr (w.heap.size + 1) (by omega) (by omega) (by omega) (by omega) (fun hm => by have := he.rows hm; omega)).trans HR93.out
    have HCLR : Hid (∀ W v nv acc wb L, EnvKn w W3 W kb nb ab g r lo v nv acc wb L → RowsP W (fun k => wc.heap.size ≤ k ∧ k < lo) (some ⟨g, 0, none⟩) ((List.range r).map (clK f rc s)) A c) := Lib.hid fun W v nv acc wb L he => by
      have hs3 := HSZ3.out
      exact HROW3.out.keep fun k hk => ⟨hk, he.fr k (by omega) (by omega) (by omega) (by omega) (fun hm => by have := he.rows hm; omega)⟩
    have HCB : Hid (∀ a, ∀ q ∈ clK f rc s a, 0 ≤ q ∧ q < (r : Int)) := Lib.hid fun a q hq => list_bd (HCLT.out a) hq
    obtain ⟨i1, hj, hy0, hy1, hy2⟩ := info_parts info84
    go_loopg [49] r (fun N t wr => ∃ i v wb, i ≤ r ∧ N = r - i ∧ t = .int .i64 i ∧ wb.length = i ∧ EnvKn w W3 wr kb nb ab g r lo v (firsts r i) (List.replicate r false) wb (wd1 (clK f rc s) i))
    case atStart => exact ⟨0, _, [], by omega, rfl, rfl, rfl, HE1.out⟩
    case round =>
      obtain ⟨i, v, wb, hi, rfl, rfl, hwl, he⟩ := hrel
      clear HE1
      subst hwl
      by_cases hlt : wb.length < r
      · have hltI : (wb.length : Int) < (r : Int) := by omega
        obtain ⟨k0, k1, k2, k3, kf⟩ := he.cells
        have n0 := he.n.cell (firsts_get (i := wb.length) hlt)
        have nf := he.n.unfrozen wb.length
        have he1 := he.setN wb.length true
        rw [← firsts_succ hlt] at he1
        have HE1 := Lib.hid he1
        clear he he1
        go_upto_region 10 with fail
        clear k0 k1 k2 k3 kf n0 nf
        generalize wr.setCell ⟨nb, wb.length, none⟩ (.bool true) = W4 at *
        obtain ⟨k0, k1, k2, k3, kf⟩ := HE1.out.cells
        obtain ⟨e0, e1, e2, e3, e4⟩ := (HFB.out _ _ _ _ _ _ HE1.out).1.cells
        rw [HREG.out] at e2
        have hk4 := HE1.out.kl
        have hcl : ∀ a, (W4.alloc a).cell? ⟨kb, 3, none⟩ = some v := fun a => (cell_of_heap (p := ⟨kb, 3, none⟩) (heap_alloc_lt W4 a hk4)).trans k3
        have hcl2 : ∀ a b, ((W4.alloc a).alloc b).cell? ⟨kb, 3, none⟩ = some v := fun a b => (cell_of_heap (p := ⟨kb, 3, none⟩) (heap_alloc_lt _ b (show kb < _ by simp; omega))).trans (hcl a)
        have hx1 : wb.length + 1 ≤ maxLen := by simp only [maxLen]; omega
        have hx2 : (wb.length + 1) * 24 ≤ 140737488355328 := by omega
        obtain ⟨A0, c0, rfl, hk1, hk2⟩ := own_form HE1.out.m.own
        have hloW : lo ≤ W4.heap.size := by have := HE1.out.sz; have := HSZ3.out; omega
        have HE2 := Lib.hid ((HE1.out.drew.alloc (.cells (madeCells #[Value.bool false] r) 4)).alloc (.cells #[.slice (some ⟨W4.heap.size, 0, none⟩) r r] 84))
        have HRD : Hid (Rd ((W4.drew.alloc (.cells (madeCells #[Value.bool false] r) 4)).alloc (.cells #[.slice (some ⟨W4.heap.size, 0, none⟩) r r] 84)) (W4.heap.size + 2) (some ⟨W4.heap.size + 1, 0, none⟩) [.slice (some ⟨W4.heap.size, 0, none⟩) r r]) := Lib.hid (fun _ => ⟨_, rfl, by simp, fun j u hu => by
          rcases j with _ | j
          · have : u = .slice (some ⟨W4.heap.size, 0, none⟩) r r := by simpa using hu.symm
            rw [this]
            have h9 := heap_alloc_new (W4.drew.alloc (.cells (madeCells #[Value.bool false] r) 4)) (.cells #[.slice (some ⟨W4.heap.size, 0, none⟩) r r] 84)
            rw [World.size_alloc] at h9
            exact Go.Joins.cell_of_block h9 0
          · simp at hu⟩)
        have HBZ : Hid (BoolsAt ((W4.drew.alloc (.cells (madeCells #[Value.bool false] r) 4)).alloc (.cells #[.slice (some ⟨W4.heap.size, 0, none⟩) r r] 84)) W4.heap.size (List.replicate r false)) := Lib.hid (by
          rw [made_false]
          exact (heap_alloc_lt _ _ (by simp)).trans (heap_alloc_new W4.drew _))
        have HONE : Hid (∀ u ∈ [Value.slice (some ⟨W4.heap.size, 0, none⟩) r r], u.oneCell' = true) := Lib.hid (fun u hu => by have : u = .slice (some ⟨W4.heap.size, 0, none⟩) r r := (by simpa using hu); rw [this]; rfl)
        clear k0 k1 k2 kf e0 e1 e3 e4
        go_region_law (refine step_append_rd _ rfl (.tmp 57) (.tmp 61) 96 rfl lo 84 i1 _ 1 24 Tryz.underlying96 hj hy0 hy1 hy2 rfl (by omega) (.slice A0 wb.length c0) wb.length (wb.map (rowV r)) (by simp [Act.eval, Act.put]) (by exact HE2.out.m.own) _ (some ⟨W4.heap.size + 1, 0, none⟩) 1 1 [.slice (some ⟨W4.heap.size, 0, none⟩) r r] (by simp [Act.eval, Act.put]) rfl (by exact HRD.out) (by exact HONE.out) hx1 hx2 (by simp; omega) ?_; intro v6 w6 ho6 hg6 hv6; obtain ⟨A6, c6, rfl, -, -⟩ := own_form ho6; have e7 := (hg6.block kb (by simp; omega) (fun e => by have := (HE2.out.m.own.lt kb e.symm).1; omega)).trans HE2.out.head; have c7 := Go.Joins.cell_of_block e7 3; have f7 := Go.Joins.unfrozen_of_block e7 3; have HO6 := Lib.hid ho6; have HG6 := Lib.hid hg6; clear e7 ho6 hg6 hv6)
        all_goals
          have hl9 : (wb ++ [W4.heap.size]).length = wb.length + 1 := by simp
          have hE3 := HE2.out.app (by rw [HSZ3.out]; exact Nat.le_refl _) HBZ.out hloW HE1.out.notin (fun cc hm => by obtain ⟨a, ha, e1, -⟩ := wd1_lt hm; simp only at e1; omega) (v' := .slice A6 (wb.length + 1) c6) (by rw [List.length_append, List.length_map]; exact HO6.out) HG6.out
          have HE3 := Lib.hid hE3
          have HWB : Hid ((wb ++ [W4.heap.size])[wb.length]? = some W4.heap.size) := Lib.hid (by simp)
          obtain ⟨p0, p1, p2, p3, pf⟩ := hE3.cells
          have hrw := HCLR.out _ _ _ _ _ _ hE3
          obtain ⟨adg, eg, -, hcg⟩ := hrw.row (by simp; omega)
          obtain rfl := Option.some.inj eg
          have hc9 := hcg wb.length (clK f rc s wb.length) (by rw [List.getElem?_map, List.getElem?_range hlt]; rfl)
          rw [add_none] at hc9
          have HCR : Hid (∀ W v nv acc wb' L, EnvKn w W3 W kb nb ab g r lo v nv acc wb' L → RdP W (fun k => wc.heap.size ≤ k ∧ k < lo) (A wb.length) (ints (clK f rc s wb.length))) := Lib.hid fun W v nv acc wb' L he => (HCLR.out W v nv acc wb' L he).rd wb.length (clK f rc s wb.length) (by rw [List.getElem?_map, List.getElem?_range hlt]; rfl)
          have hclen : (clK f rc s wb.length).length ≤ 4096 := list_len _
          have hclI : ((clK f rc s wb.length).length : Int) ≤ 4096 := by omega
          clear hE3 hrw hcg hcl hcl2 c7 f7 HE2 HRD HONE HO6 HG6 k3 e2
          generalize A wb.length = Ar at *
          generalize c wb.length = cr at *
          generalize hW5 : w6.setCell ⟨kb, 3, none⟩ (.slice A6 (wb.length + 1) c6) = W5 at *
          clear hW5
          go_wp2_with fail
          clear p0 p1 p2 p3 pf hc9
          go_loopg [70] (clK f rc s wb.length).length (fun N t wr => ∃ j, j ≤ (clK f rc s wb.length).length ∧ N = (clK f rc s wb.length).length - j ∧ t = .int .i64 j ∧ EnvKn w W3 wr kb nb ab g r lo (.slice A6 (wb.length + 1) c6) (firsts r (wb.length + 1)) (List.replicate r false) (wb ++ [W4.heap.size]) (wd1 (clK f rc s) wb.length ++ ((clK f rc s wb.length).take j).map fun q => ((wb.length : Int), q)))
          case atStart => exact ⟨0, by omega, rfl, rfl, by simpa using HE3.out⟩
          case round =>
            obtain ⟨j, hj, rfl, rfl, he⟩ := hrel
            by_cases hlj : j < (clK f rc s wb.length).length
            · have hljI : (j : Int) < ((clK f rc s wb.length).length : Int) := by omega
              have hrd := HCR.out _ _ _ _ _ _ he
              obtain ⟨ad, p, x, rfl, hx, hp, hpb, d0⟩ := rdp_int hrd hlj
              obtain ⟨x0, x1⟩ := HCB.out wb.length x (List.mem_of_getElem? hx)
              obtain ⟨q, rfl⟩ := Int.eq_ofNat_of_zero_le x0
              have hqr : q < r := by omega
              obtain ⟨y, rfl, y0⟩ := he.mcell HWB.out hl9.symm
              obtain ⟨p0, p1, p2, p3, pf⟩ := he.cells
              have hbw := (he.m.row wb.length _ HWB.out).1
              have b0 := hbw.cell (mrow_get _ wb.length hqr)
              have bf := hbw.unfrozen q
              have HES := Lib.hid (he.setM HWB.out hqr)
              have HTK : Hid (((clK f rc s wb.length).take (j + 1)).map (fun q => ((wb.length : Int), q)) = ((clK f rc s wb.length).take j).map (fun q => ((wb.length : Int), q)) ++ [((wb.length : Int), (q : Int))]) := Lib.hid (by rw [List.take_add_one, hx, Option.toList_some, List.map_append]; rfl)
              clear he hrd hx hbw x0 x1
              go_wp2_with fail
              go_roundg ((clK f rc s wb.length).length - (j + 1))
              case measure => omega
              case rel => exact ⟨j + 1, by omega, rfl, by go_num, by rw [HTK.out, ← List.append_assoc]; exact HES.out⟩
            · obtain rfl : j = (clK f rc s wb.length).length := by omega
              rw [List.take_length, ← wd1_succ] at he
              have HF := Lib.hid he
              clear he
              go_wp2_with fail
              go_roundg (r - (wb.length + 1))
              case measure => omega
              case rel => exact ⟨wb.length + 1, _, _, by omega, rfl, by go_num, hl9, HF.out⟩
      · have hwr : wb.length = r := by omega
        have hge : ¬ (wb.length : Int) < (r : Int) := by omega
        rw [hwr, firsts_all] at he
        obtain ⟨A0, c0, rfl⟩ : ∃ A c, v = .slice A r c := by
          obtain ⟨A, c, e, -, -⟩ := own_form he.m.own
          rw [hwr] at e
          exact ⟨A, c, e⟩
        obtain ⟨k0, k1, k2, k3, kf⟩ := he.cells
        obtain ⟨e0, e1, e2, e3, e4⟩ := (HFB.out _ _ _ _ _ _ he).1.cells
        have HNE := Lib.hid (needs_65 f ⟨SA, sc, BA, bc, OA, oc, AA, ac⟩ r w wr HST.out he.b0 k1 he.kn he.kl he.n he.lk.2.1)
        unfold fnV at HNE
        simp only at HNE
        have HWR := Lib.hid hwr
        have HE2 := Lib.hid he
        clear he hwr hmk
        go_upto_region 19 with (first
          | (go_at_call 8; (have hnow := HAC); go_loud ((refine HAC.out.mono ?_; rintro e w6 ⟨rc8, s8, v8, rfl, hv8, hfo8, hli8, hb8⟩; have HV8 := Lib.hid hv8; have HF8 := Lib.hid hfo8; have HL8 := Lib.hid hli8; have HB8 := Lib.hid hb8; clear hv8 hfo8 hli8 hb8)))
          | (go_at_call 65; go_loud ((refine HNE.out.mono ?_; rintro e w5 ⟨rc5, s5, rfl, hfo5, hli5, hb5, hg5⟩; obtain rfl := HFO.out.unique hfo5; obtain rfl := HLI.out.unique hli5; have he5 := HE2.out.need hb5 hg5; clear e0 e1 e2 e3 e4; obtain ⟨e0, e1, e2, e3, e4⟩ := (HFB.out _ _ _ _ _ _ he5).1.cells; have hac := Across_8 f ⟨SA, sc, BA, bc, OA, oc, AA, ac⟩ r w5 (HSS.out w5 he5.b0); unfold fnV at hac; simp only at hac; have HAC := Lib.hid hac; have HE5 := Lib.hid he5; clear hfo5 hli5 hb5 hg5 he5 hac))))
        obtain rfl := HFO.out.unique HF8.out
        obtain rfl := HLI.out.unique HL8.out
        obtain ⟨A8, c8, rfl, ho8⟩ := HV8.out
        have he6 := HE5.out.after HB8.out
        have hw56 : w5.heap.size ≤ w6.heap.size := HB8.out.size
        have HE6 := Lib.hid he6.self
        have HE36 := Lib.hid he6
        have HFB6 : Hid (∀ W v nv acc L, EnvKn w w6 W kb nb ab g r lo v nv acc wb L → FBox W w.heap.size f ⟨SA, sc, BA, bc, OA, oc, AA, ac⟩ ∧ W.heap[w.heap.size + 1]? = some (.cells #[.slice none 0 0, .slice none 0 0, .slice none 0 0, .slice none 0 0] 98 (0, 0))) := Lib.hid fun W v nv acc L he => by
          have h6 := HFB.out _ _ _ _ _ _ he6
          have hs := he6.lts
          exact ⟨(he.at_ (by omega) (by omega) (by omega) (by omega) (by omega)).trans h6.1, (he.at_ (by omega) (by omega) (by omega) (by omega) (by omega)).trans h6.2⟩
        have HRA : Hid (∀ W v nv acc L, EnvKn w w6 W kb nb ab g r lo v nv acc wb L → RdP W (fun k => w5.heap.size ≤ k ∧ k < w6.heap.size) A8 (ints (list (across f.bl rc s)))) := Lib.hid fun W v nv acc L he => (RdP.of_own ho8).keep fun k hk => ⟨hk, he.late HE5.out.self hk.2 hk.1⟩
        have HBLK : Hid (∀ x ∈ f.bl, BlOk r x) := Lib.hid (by have h1 := HST.out.good.blOk; rw [HREG.out, Int.toNat_natCast] at h1; exact h1)
        have HINS : Hid (InsOk r s) := Lib.hid (Lives.ok HBLK.out HLI.out).1
        have hlal : (list (across f.bl rc s)).length ≤ 4096 := list_len _
        have HLA : Hid (∀ q ∈ list (across f.bl rc s), 0 ≤ q ∧ q < (r : Int)) := Lib.hid fun q hq => list_bd (across_lt HBLK.out HINS.out) hq
        have HACL : Hid (acL f rc s ((anl f rc s r f.bl.length).take 0) = list (across f.bl rc s)) := Lib.hid (by simp [acL])
        clear he6 ho8 HV8 HF8 HL8 HNE HAC k0 k1 k2 k3 kf e0 e1 e2 e3 e4
        generalize list (across f.bl rc s) = la at *
        have hlaI : (la.length : Int) ≤ 4096 := by omega
        go_wp2_with fail
        go_loopg [92] la.length (fun N t wr => ∃ j, j ≤ la.length ∧ N = la.length - j ∧ t = .int .i64 j ∧ EnvKn w w6 wr kb nb ab g r lo (.slice A0 r c0) (nots r (needs f.bl rc s f.bl.length)) (marks r (la.take j)) wb (wd1 (clK f rc s) r))
        case atStart => exact ⟨0, by omega, rfl, rfl, by rw [List.take_zero, marks_nil]; exact HE6.out⟩
        case round =>
          obtain ⟨j, hj, rfl, rfl, he⟩ := hrel
          by_cases hlj : j < la.length
          · have hljI : (j : Int) < (la.length : Int) := by omega
            obtain ⟨ad, p, x, rfl, hx, hp, -, d0⟩ := rdp_int (HRA.out _ _ _ _ _ he) hlj
            obtain ⟨x0, x1⟩ := HLA.out x (List.mem_of_getElem? hx)
            obtain ⟨q, rfl⟩ := Int.eq_ofNat_of_zero_le x0
            have hqr : q < r := by omega
            obtain ⟨k0, k1, k2, k3, kf⟩ := he.cells
            have b0 := he.a.cell (marks_get r (la.take j) q hqr)
            have bf := he.a.unfrozen q
            have hes := he.setA q true
            have HTK : Hid (la.take (j + 1) = la.take j ++ [(q : Int)]) := Lib.hid (by rw [List.take_add_one, hx]; rfl)
            rw [← marks_snoc r _ q hqr, ← HTK.out] at hes
            have HES := Lib.hid hes
            clear he hx x0 x1 hes
            go_wp2_with fail
            go_roundg (la.length - (j + 1))
            case measure => omega
            case rel => exact ⟨j + 1, by omega, rfl, by go_num, HES.out⟩
          · obtain rfl : j = la.length := by omega
            rw [List.take_length, ← HACL.out] at he
            obtain ⟨e0, e1, e2, e3, e4⟩ := (HFB6.out _ _ _ _ _ he).1.cells
            have han := Analyze_10 f ⟨SA, sc, BA, bc, OA, oc, AA, ac⟩ r wr (HSS.out _ he.b0)
            unfold fnV at han
            simp only at han
            have HAN := Lib.hid han
            have HE9 := Lib.hid he
            clear he han
            go_upto_region 26 with (first
              | (go_at_call 11; (have hnow := HLV); go_loud ((refine HLV.out.mono ?_; rintro e w11 ⟨rc11, s11, gi, gq, Ai, ci, Ao, co, rfl, hin, -, hfo11, hli11, hb11⟩; have HIN := Lib.hid hin; have HF11 := Lib.hid hfo11; have HL11 := Lib.hid hli11; have HB11 := Lib.hid hb11; clear hin hfo11 hli11 hb11)))
              | (go_at_call 10; go_loud ((refine HAN.out.mono ?_; rintro e w10 ⟨rc10, s10, v10, xs, rfl, how, htw, hfo10, hli10, hb10⟩; have he10 := HE9.out.after hb10; clear e0 e1 e2 e3 e4; obtain ⟨e0, e1, e2, e3, e4⟩ := (HFB6.out _ _ _ _ _ he10).1.cells; have hlv := Live_11 f ⟨SA, sc, BA, bc, OA, oc, AA, ac⟩ r w10 (HSS.out _ he10.b0); unfold fnV at hlv; simp only at hlv; have HLV := Lib.hid hlv; have HOW := Lib.hid how; have HTW := Lib.hid htw; have HF10 := Lib.hid hfo10; have HL10 := Lib.hid hli10; have HB10 := Lib.hid hb10; have HE10 := Lib.hid he10; clear how htw hfo10 hli10 hb10 he10 hlv))))
            obtain rfl := HFO.out.unique HF10.out
            obtain rfl := HLI.out.unique HL10.out
            obtain rfl := HFO.out.unique HF11.out
            obtain rfl := HLI.out.unique HL11.out
            obtain ⟨AS, cs, rfl, -, -⟩ := own_form HOW.out
            have HTM : Hid (∀ t ∈ anl f rc s r f.bl.length, ∃ x, f.bl[t.1]? = some x ∧ rc[t.1]? = some true ∧ x.ex.k = 4 ∧ t.2.1 = less (liveIn rc s x.ex.els.toNat) x.ex.d ∧ t.2.2 = among t.2.1 (btwOf f.bl x.ex r)) := Lib.hid fun t ht => anl_mem ht
            have htl : (anl f rc s r f.bl.length).length ≤ 4096 := Nat.le_trans (anl_len _ _ _ _ _) hbl4
            have hh10 := HB10.out.size
            have hh11 := HB11.out.size
            have HE12 := Lib.hid ((HE10.out.after HB11.out).alloc (.cells #[.slice (some ⟨gi, 0, none⟩) f.bl.length f.bl.length, .slice (some ⟨gq, 0, none⟩) f.bl.length f.bl.length] 42)).self
            have HE612 := Lib.hid ((HE10.out.after HB11.out).alloc (.cells #[.slice (some ⟨gi, 0, none⟩) f.bl.length f.bl.length, .slice (some ⟨gq, 0, none⟩) f.bl.length f.bl.length] 42))
            have HFB12 := Lib.hid (HFB6.out _ _ _ _ _ ((HE10.out.after HB11.out).alloc (.cells #[.slice (some ⟨gi, 0, none⟩) f.bl.length f.bl.length, .slice (some ⟨gq, 0, none⟩) f.bl.length f.bl.length] 42)))
            have HLB := Lib.hid (heap_alloc_new w11 (.cells #[.slice (some ⟨gi, 0, none⟩) f.bl.length f.bl.length, .slice (some ⟨gq, 0, none⟩) f.bl.length f.bl.length] 42))
            have hb12 := (Below.refl w11.heap.size w11).alloc (Nat.le_refl _) (.cells #[.slice (some ⟨gi, 0, none⟩) f.bl.length f.bl.length, .slice (some ⟨gq, 0, none⟩) f.bl.length f.bl.length] 42)
            have HTW12 := Lib.hid ((HTW.out.keep (fun k cs hk => HB11.out.block k (Array.getElem?_eq_some_iff.1 hk).1)).keep (fun k cs hk => hb12.block k (Array.getElem?_eq_some_iff.1 hk).1))
            have hrs := (rdp_own_any HOW.out).keep (P' := fun k => wr.heap.size ≤ k ∧ k < w10.heap.size) (W' := w11.alloc (.cells #[.slice (some ⟨gi, 0, none⟩) f.bl.length f.bl.length, .slice (some ⟨gq, 0, none⟩) f.bl.length f.bl.length] 42)) (fun k hk => ⟨hk, (hb12.block k (by omega)).trans (HB11.out.block k (by omega))⟩)
            have hrl := HIN.out.keep (P' := fun k => w10.heap.size ≤ k ∧ k < w11.heap.size) (W' := w11.alloc (.cells #[.slice (some ⟨gi, 0, none⟩) f.bl.length f.bl.length, .slice (some ⟨gq, 0, none⟩) f.bl.length f.bl.length] 42)) (fun k hk => ⟨hk, hb12.block k hk.2⟩)
            have hs12 : (w11.alloc (.cells #[.slice (some ⟨gi, 0, none⟩) f.bl.length f.bl.length, .slice (some ⟨gq, 0, none⟩) f.bl.length f.bl.length] 42)).heap.size = w11.heap.size + 1 := World.size_alloc _ _
            clear hb12
            generalize w11.alloc (.cells #[.slice (some ⟨gi, 0, none⟩) f.bl.length f.bl.length, .slice (some ⟨gq, 0, none⟩) f.bl.length f.bl.length] 42) = W12 at *
            have HSET : Hid (∀ W v nv acc L, EnvKn w W12 W kb nb ab g r lo v nv acc wb L → RdP W (fun k => k < W.heap.size) AS xs ∧ TwsAt W xs (anl f rc s r f.bl.length) ∧ FBox W w.heap.size f ⟨SA, sc, BA, bc, OA, oc, AA, ac⟩ ∧ W.heap[w.heap.size + 1]? = some (.cells #[.slice none 0 0, .slice none 0 0, .slice none 0 0, .slice none 0 0] 98 (0, 0)) ∧ W.heap[w11.heap.size]? = some (.cells #[.slice (some ⟨gi, 0, none⟩) f.bl.length f.bl.length, .slice (some ⟨gq, 0, none⟩) f.bl.length f.bl.length] 42 (0, 0)) ∧ RowsP W (fun k => w10.heap.size ≤ k ∧ k < w11.heap.size) (some ⟨gi, 0, none⟩) ((List.range f.bl.length).map (liveIn rc s)) Ai ci) := Lib.hid fun W v nv acc L he => by
              have hz := he.sz
              have hl9 := HE9.out.lts
              have hl6 := HE9.out.self
              refine ⟨hrs.keep fun k hk => ⟨by omega, he.late hl6 (by omega) hk.1⟩, HTW12.out.keep fun k cs hk => he.three HE12.out (by decide) (by decide) hk, (he.at_ (by omega) (by omega) (by omega) (by omega) (by omega)).trans HFB12.out.1, (he.at_ (by omega) (by omega) (by omega) (by omega) (by omega)).trans HFB12.out.2, (he.late hl6 (by omega) (by omega)).trans HLB.out, hrl.keep fun k hk => ⟨hk, he.late hl6 (by omega) (by omega)⟩⟩
            have HCL12 : Hid (∀ W v nv acc L, EnvKn w W12 W kb nb ab g r lo v nv acc wb L → RowsP W (fun k => wc.heap.size ≤ k ∧ k < lo) (some ⟨g, 0, none⟩) ((List.range r).map (clK f rc s)) A c) := Lib.hid fun W v nv acc L he => HCLR.out _ _ _ _ _ _ ((HE36.out.trans HE612.out).trans he)
            have HWD0 : Hid (wdL f rc s r ((anl f rc s r f.bl.length).take 0) = wd1 (clK f rc s) r) := Lib.hid (by simp [wdL])
            have HE13 : Hid (EnvKn w W12 W12 kb nb ab g r lo (.slice A0 r c0) (nots r (needs f.bl rc s f.bl.length)) (marks r (acL f rc s ((anl f rc s r f.bl.length).take 0))) wb (wdL f rc s r ((anl f rc s r f.bl.length).take 0))) := Lib.hid (by rw [HWD0.out]; exact HE12.out)
            clear hrs hrl HTW12 HLB HFB12 HOW HTW HF10 HL10 HF11 HL11 HAN HLV HIN e0 e1 e2 e3 e4 HACL
            generalize hts : anl f rc s r f.bl.length = ts at *
            have HTS := Lib.hid hts
            clear hts
            have htlI : (ts.length : Int) ≤ 4096 := by omega
            go_wp2_with fail
            go_loopg [113] ts.length (fun N t wr => ∃ n, n ≤ ts.length ∧ N = ts.length - n ∧ t = .int .i64 n ∧ EnvKn w W12 wr kb nb ab g r lo (.slice A0 r c0) (nots r (needs f.bl rc s f.bl.length)) (marks r (acL f rc s (ts.take n))) wb (wdL f rc s r (ts.take n)))
            case atStart => exact ⟨0, by omega, rfl, rfl, HE13.out⟩
            case round =>
              obtain ⟨n, hn, rfl, rfl, he⟩ := hrel
              by_cases hltn : n < ts.length
              · have hltnI : (n : Int) < (ts.length : Int) := by omega
                obtain ⟨hrs, htw, hfb, hr9, hlb, hrl⟩ := HSET.out _ _ _ _ _ he
                obtain ⟨adS, p, t, A1, c1, A2, c2, rfl, ht, hp, hpl, g0, g1, g2, hr1, hr2⟩ := tw_at (hrs.rd (fun _ h => h)) htw hltn
                obtain ⟨x, hx, hrct, hk4, hkept, hrisk⟩ := HTM.out t (List.mem_of_getElem? ht)
                have hat := acL_snoc f rc s ht
                have hwt := wdL_snoc f rc s r ht
                unfold acT at hat
                unfold wdT at hwt
                rw [hx] at hat hwt
                simp only at hat hwt
                have hkb9 : ∀ q ∈ t.2.1, 0 ≤ q ∧ q < (r : Int) := fun q hq => by rw [hkept] at hq; exact liveIn_bd HINS.out _ (less_mem.1 hq).1
                have hkl9 : t.2.1.length ≤ 4096 := by rw [hkept]; exact Nat.le_trans (less_len _ _) (liveIn_len _ _ _)
                have hrl9 : t.2.2.length ≤ 4096 := by rw [hrisk]; exact Nat.le_trans (among_len _ _) hkl9
                generalize t.2.1 = kept at *
                generalize t.2.2 = risky at *
                generalize t.1 = tb at *
                have hbl : tb < f.bl.length := (List.getElem?_eq_some_iff.1 hx).1
                have hblI : (tb : Int) < (f.bl.length : Int) := by omega
                have hkI : (kept.length : Int) ≤ 4096 := by omega
                obtain ⟨e0, e1, e2, e3, e4⟩ := hfb.cells
                obtain ⟨adB, pB, x', eB, hx', hpB, hpBl, a0, a1, a2, a3, a4, a5⟩ := bl_at (HSS.out _ he.b0).fn.bls hbl
                rw [hx] at hx'
                obtain rfl := Option.some.inj hx'
                obtain rfl := eB
                obtain ⟨-, -, t1, tn, -, -, -⟩ := exit_set (HST.out.good.ex x (List.mem_of_getElem? hx)) hk4
                obtain ⟨t0, ht0⟩ := Int.eq_ofNat_of_zero_le (show 0 ≤ x.ex.to by omega)
                rw [ht0] at a4 tn
                have ht0n : t0 < f.bl.length := by omega
                rw [ht0, Int.toNat_natCast] at hat
                obtain ⟨adg, eg, hgb, hcg⟩ := hrl.row (by simp; omega)
                obtain rfl := Option.some.inj eg
                have hc9 := hcg t0 (liveIn rc s t0) (by rw [List.getElem?_map, List.getElem?_range ht0n]; rfl)
                rw [add_none] at hc9
                have l0 := Go.Joins.cell_of_block hlb 0
                have HLR : Hid (∀ W v nv acc L, EnvKn w W12 W kb nb ab g r lo v nv acc wb L → RdP W (fun k => w10.heap.size ≤ k ∧ k < w11.heap.size) (Ai t0) (ints (liveIn rc s t0))) := Lib.hid fun W v nv acc L he => (HSET.out _ _ _ _ _ he).2.2.2.2.2.rd t0 (liveIn rc s t0) (by rw [List.getElem?_map, List.getElem?_range ht0n]; rfl)
                have HLBD : Hid (∀ q ∈ liveIn rc s t0, 0 ≤ q ∧ q < (r : Int)) := Lib.hid fun q hq => liveIn_bd HINS.out t0 hq
                have hlil : (liveIn rc s t0).length ≤ 4096 := liveIn_len _ _ _
                generalize Ai t0 = Al at *
                generalize ci t0 = cL at *
                generalize liveIn rc s t0 = li at *
                have hliI : (li.length : Int) ≤ 4096 := by omega
                have he13 := (he.alloc (.cells #[.int .i64 (tb : Int), .slice A1 kept.length c1, .slice A2 risky.length c2] 46)).alloc (.cells #[.int .i64 x.ex.k, .int .i64 x.ex.a, .int .i64 x.ex.d, .int .i64 (t0 : Int), .int .i64 x.ex.els] 50)
                have hbb : Below wr.heap.size wr ((wr.alloc (.cells #[.int .i64 (tb : Int), .slice A1 kept.length c1, .slice A2 risky.length c2] 46)).alloc (.cells #[.int .i64 x.ex.k, .int .i64 x.ex.a, .int .i64 x.ex.d, .int .i64 (t0 : Int), .int .i64 x.ex.els] 50)) := ((Below.refl _ _).alloc (Nat.le_refl _) _).alloc (by simp) _
                have hbx : ((wr.alloc (.cells #[.int .i64 (tb : Int), .slice A1 kept.length c1, .slice A2 risky.length c2] 46)).alloc (.cells #[.int .i64 x.ex.k, .int .i64 x.ex.a, .int .i64 x.ex.d, .int .i64 (t0 : Int), .int .i64 x.ex.els] 50)).heap[wr.heap.size]? = some (.cells #[.int .i64 (tb : Int), .slice A1 kept.length c1, .slice A2 risky.length c2] 46 (0, 0)) := (heap_alloc_lt _ _ (by simp)).trans (heap_alloc_new wr _)
                have hby : ((wr.alloc (.cells #[.int .i64 (tb : Int), .slice A1 kept.length c1, .slice A2 risky.length c2] 46)).alloc (.cells #[.int .i64 x.ex.k, .int .i64 x.ex.a, .int .i64 x.ex.d, .int .i64 (t0 : Int), .int .i64 x.ex.els] 50)).heap[wr.heap.size + 1]? = some (.cells #[.int .i64 x.ex.k, .int .i64 x.ex.a, .int .i64 x.ex.d, .int .i64 (t0 : Int), .int .i64 x.ex.els] 50 (0, 0)) := by
                  have h9 := heap_alloc_new (wr.alloc (.cells #[.int .i64 (tb : Int), .slice A1 kept.length c1, .slice A2 risky.length c2] 46)) (.cells #[.int .i64 x.ex.k, .int .i64 x.ex.a, .int .i64 x.ex.d, .int .i64 (t0 : Int), .int .i64 x.ex.els] 50)
                  rw [World.size_alloc] at h9
                  exact h9
                have hsz13 : ((wr.alloc (.cells #[.int .i64 (tb : Int), .slice A1 kept.length c1, .slice A2 risky.length c2] 46)).alloc (.cells #[.int .i64 x.ex.k, .int .i64 x.ex.a, .int .i64 x.ex.d, .int .i64 (t0 : Int), .int .i64 x.ex.els] 50)).heap.size = wr.heap.size + 2 := by simp
                have hrt1 := hr1.below hbb
                have hrt2 := hr2.below hbb
                have HEO := Lib.hid he.self
                have HEI := Lib.hid he13
                have HX := Lib.hid hx
                have HK4 := Lib.hid hk4
                have HRCT := Lib.hid hrct
                have HAT := Lib.hid hat
                have HWT := Lib.hid hwt
                have HKB := Lib.hid hkb9
                have hww : w.heap.size < wr.heap.size := (Array.getElem?_eq_some_iff.1 hfb).1
                have hlbw : w11.heap.size < wr.heap.size := (Array.getElem?_eq_some_iff.1 hlb).1
                have hgiw : gi < wr.heap.size := by have : w10.heap.size ≤ gi ∧ gi < w11.heap.size := hgb; omega
                clear he hrs htw hfb hr9 hlb hrl hr1 hr2 ht hx hrct hk4 hat hwt hkept hrisk hkb9 hcg hgb he13 hbb e0 e1 e2 e3
                go_wp2_with fail
                clear g0 g1 g2 a0 a1 a2 a3 a4 a5 l0 hc9 e4
                generalize ((wr.alloc (.cells #[.int .i64 (tb : Int), .slice A1 kept.length c1, .slice A2 risky.length c2] 46)).alloc (.cells #[.int .i64 x.ex.k, .int .i64 x.ex.a, .int .i64 x.ex.d, .int .i64 (t0 : Int), .int .i64 x.ex.els] 50)) = W13 at *
                have HK13 : Hid (∀ W v nv acc L, EnvKn w W13 W kb nb ab g r lo v nv acc wb L → RdT W A1 kept ∧ RdT W A2 risky ∧ W.heap[wr.heap.size]? = some (.cells #[.int .i64 (tb : Int), .slice A1 kept.length c1, .slice A2 risky.length c2] 46 (0, 0)) ∧ W.heap[wr.heap.size + 1]? = some (.cells #[.int .i64 x.ex.k, .int .i64 x.ex.a, .int .i64 x.ex.d, .int .i64 (t0 : Int), .int .i64 x.ex.els] 50 (0, 0))) := Lib.hid fun W v nv acc L he =>
                  ⟨hrt1.keep fun k cs hk => he.three HEI.out.self (by decide) (by decide) hk, hrt2.keep fun k cs hk => he.three HEI.out.self (by decide) (by decide) hk, (he.late HEO.out (by omega) (Nat.le_refl _)).trans hbx, (he.late HEO.out (by omega) (Nat.le_succ _)).trans hby⟩
                clear hrt1 hrt2 hbx hby
                have HE5 := Lib.hid HEI.out.self
                generalize wr.heap.size = xb at *
                go_loopg [131] li.length (fun N t wr2 => ∃ j, j ≤ li.length ∧ N = li.length - j ∧ t = .int .i64 j ∧ EnvKn w W13 wr2 kb nb ab g r lo (.slice A0 r c0) (nots r (needs f.bl rc s f.bl.length)) (marks r (acL f rc s (ts.take n) ++ less (li.take j) x.ex.d)) wb (wdL f rc s r (ts.take n)))
                case atStart => exact ⟨0, by omega, rfl, rfl, by simpa [less] using HE5.out⟩
                case round =>
                  obtain ⟨j, hj, rfl, rfl, he⟩ := hrel
                  clear HE5
                  by_cases hlj : j < li.length
                  · have hljI : (j : Int) < (li.length : Int) := by omega
                    obtain ⟨ad, p, x9, rfl, hx9, hp, -, d0⟩ := rdp_int (HLR.out _ _ _ _ _ (HEI.out.trans he)) hlj
                    obtain ⟨x0, x1⟩ := HLBD.out x9 (List.mem_of_getElem? hx9)
                    obtain ⟨q, rfl⟩ := Int.eq_ofNat_of_zero_le x0
                    have hqr : q < r := by omega
                    obtain ⟨k0, k1, k2, k3, kf⟩ := he.cells
                    obtain ⟨-, -, -, hby⟩ := HK13.out _ _ _ _ _ he
                    have y2 := Go.Joins.cell_of_block hby 2
                    have b0 := he.a.cell (marks_get r (acL f rc s (ts.take n) ++ less (li.take j) x.ex.d) q hqr)
                    have bf := he.a.unfrozen q
                    have hls := less_snoc li x.ex.d hx9
                    cases hb : ((q : Int) != x.ex.d) with
                    | true =>
                      rw [if_neg (by simpa using hb), ] at hls
                      have hes := he.setA q true
                      rw [← marks_snoc r _ q hqr, List.append_assoc, ← hls] at hes
                      have HES := Lib.hid hes
                      clear he hx9 x0 x1 hes hls hby
                      go_wp2_with fail
                      go_roundg (li.length - (j + 1))
                      case measure => omega
                      case rel => exact ⟨j + 1, by omega, rfl, by go_num, HES.out⟩
                    | false =>
                      rw [if_pos (by simpa using hb), List.append_nil] at hls
                      rw [← hls] at he
                      have HES := Lib.hid he
                      clear he hx9 x0 x1 hls hby
                      go_wp2_with fail
                      go_roundg (li.length - (j + 1))
                      case measure => omega
                      case rel => exact ⟨j + 1, by omega, rfl, by go_num, HES.out⟩
                  · obtain rfl : j = li.length := by omega
                    rw [List.take_length] at he
                    obtain ⟨-, -, hbx, -⟩ := HK13.out _ _ _ _ _ he
                    have z0 := Go.Joins.cell_of_block hbx 0
                    obtain ⟨e0, e1, e2, e3, e4⟩ := (HSET.out _ _ _ _ _ (HEI.out.trans he)).2.2.1.cells
                    have hbt := Between_12 f ⟨SA, sc, some adB, bc, OA, oc, AA, ac⟩ r wr (HSS.out _ he.b0) HX.out HK4.out (fun rc' h => by rw [← HFO.out.unique h]; exact HRCT.out)
                    unfold fnV at hbt
                    simp only at hbt
                    have HBT := Lib.hid hbt
                    have HE14 := Lib.hid he
                    clear he hbx hbt
                    go_upto_region 37 with (go_at_call 12; go_loud ((refine HBT.out.mono ?_; rintro e w15 ⟨v22, out, rfl, hbo, hv22, hb15⟩; have HBO := Lib.hid hbo; have HV22 := Lib.hid hv22; have HB15 := Lib.hid hb15; clear hbo hv22 hb15)))
                    obtain rfl := HBO.out.eq
                    have hwl9 : (trues (btwOf f.bl x.ex r) r).length ≤ 4096 := Nat.le_trans (trues_len _ _) hr4
                    have HWB9 : Hid (∀ q ∈ trues (btwOf f.bl x.ex r) r, 0 ≤ q ∧ q < (r : Int)) := Lib.hid fun q hq => by
                      unfold trues at hq
                      obtain ⟨i, hi, rfl⟩ := List.mem_map.1 hq
                      have := List.mem_range.1 (List.mem_filter.1 hi).1
                      omega
                    obtain ⟨A22, c22, rfl, ho22⟩ := HV22.out
                    have he15 := HE14.out.after HB15.out
                    have hh15 := HB15.out.size
                    have HWL : Hid (∀ W v nv acc L, EnvKn w w15 W kb nb ab g r lo v nv acc wb L → RdP W (fun k => wr.heap.size ≤ k ∧ k < w15.heap.size) A22 (ints (trues (btwOf f.bl x.ex r) r))) := Lib.hid fun W v nv acc L he => (RdP.of_own ho22).keep fun k hk => ⟨hk, he.late HE14.out.self hk.2 hk.1⟩
                    have HE15 := Lib.hid he15
                    have HE155 := Lib.hid he15.self
                    clear he15 ho22 HV22 HBO
                    generalize trues (btwOf f.bl x.ex r) r = wl at *
                    have hwlI : (wl.length : Int) ≤ 4096 := by omega
                    obtain ⟨-, -, hbx, -⟩ := HK13.out _ _ _ _ _ HE15.out
                    have z1 := Go.Joins.cell_of_block hbx 1
                    clear hbx
                    go_wp2_with fail
                    clear z1
                    go_loopg [154] kept.length (fun N t wr2 => ∃ j, j ≤ kept.length ∧ N = kept.length - j ∧ t = .int .i64 j ∧ EnvKn w w15 wr2 kb nb ab g r lo (.slice A0 r c0) (nots r (needs f.bl rc s f.bl.length)) (marks r (acL f rc s (ts.take n) ++ less li x.ex.d ++ kept.take j)) wb (wdL f rc s r (ts.take n) ++ wpairs (kept.take j) risky wl))
                    case atStart => exact ⟨0, by omega, rfl, rfl, by simpa [wpairs] using HE155.out⟩
                    case round =>
                      obtain ⟨j, hj, rfl, rfl, he⟩ := hrel
                      clear HE155
                      by_cases hlj : j < kept.length
                      · have hljI : (j : Int) < (kept.length : Int) := by omega
                        obtain ⟨hkr, hrr, hbx, -⟩ := HK13.out _ _ _ _ _ (HE15.out.trans he)
                        obtain ⟨ad, p, x9, rfl, hx9, hp, -, d0⟩ := rd_int hkr.rd hlj
                        obtain ⟨x0, x1⟩ := HKB.out x9 (List.mem_of_getElem? hx9)
                        obtain ⟨q, rfl⟩ := Int.eq_ofNat_of_zero_le x0
                        have hqr : q < r := by omega
                        have HTK : Hid (kept.take (j + 1) = kept.take j ++ [(q : Int)]) := Lib.hid (by rw [List.take_add_one, hx9]; rfl)
                        have HWS := Lib.hid (wpairs_snoc (kept.take j) risky wl (q : Int))
                        obtain ⟨k0, k1, k2, k3, kf⟩ := he.cells
                        have b0 := he.a.cell (marks_get r (acL f rc s (ts.take n) ++ less li x.ex.d ++ kept.take j) q hqr)
                        have bf := he.a.unfrozen q
                        have hes := he.setA q true
                        rw [← marks_snoc r _ q hqr, List.append_assoc, ← HTK.out] at hes
                        have HES := Lib.hid hes
                        have hxb9 : xb < wr.heap.size := (Array.getElem?_eq_some_iff.1 hbx).1
                        have hxa : xb ≠ ab := fun e => by
                          have h9 := he.a
                          rw [← e] at h9
                          have := hbx.symm.trans h9
                          simp at this
                        have z2 := Go.Joins.cell_of_block hbx 2
                        have hrs := (HK13.out _ _ _ _ _ (HE15.out.trans hes)).2.1.rd
                        have HCT := Lib.hid (contains_50 A2 c2 risky (q : Int) _ _ (by simp only [maxLen]; omega) hrs)
                        clear he hkr hrr hbx hx9 x0 x1 hes hrs
                        by_cases hm : (q : Int) ∈ risky
                        · rw [if_pos hm, List.append_nil, ← HTK.out] at HWS
                          rw [decide_eq_true hm] at HCT
                          clear hm
                          go_wp2_with (go_at_call 50; go_loud ((refine HCT.out.mono ?_; rintro e w17 ⟨rfl, rfl⟩)))
                          go_roundg (kept.length - (j + 1))
                          case measure => omega
                          case rel => exact ⟨j + 1, by omega, rfl, by go_num, by rw [HWS.out]; exact HES.out⟩
                        · rw [if_neg hm, ← HTK.out] at HWS
                          rw [decide_eq_false hm] at HCT
                          clear hm
                          go_wp2_with (go_at_call 50; go_loud ((refine HCT.out.mono ?_; rintro e w17 ⟨rfl, rfl⟩)))
                          clear k0 k1 k2 k3 kf b0 bf z2 d0
                          generalize wr.setCell ⟨ab, q, none⟩ (.bool true) = W17 at *
                          go_loopg [168] wl.length (fun N t wr2 => ∃ i, i ≤ wl.length ∧ N = wl.length - i ∧ t = .int .i64 i ∧ EnvKn w w15 wr2 kb nb ab g r lo (.slice A0 r c0) (nots r (needs f.bl rc s f.bl.length)) (marks r (acL f rc s (ts.take n) ++ less li x.ex.d ++ kept.take (j + 1))) wb (wdL f rc s r (ts.take n) ++ wpairs (kept.take j) risky wl ++ wp1 (q : Int) (wl.take i)))
                          case atStart => exact ⟨0, by omega, rfl, rfl, by simpa [wp1] using HES.out⟩
                          case round =>
                            obtain ⟨i, hi, rfl, rfl, he⟩ := hrel
                            clear HES
                            by_cases hli2 : i < wl.length
                            · have hliI : (i : Int) < (wl.length : Int) := by omega
                              obtain ⟨ad5, p5, x9, rfl, hx9, hp5, -, d0⟩ := rdp_int (HWL.out _ _ _ _ _ he) hli2
                              obtain ⟨x0, x1⟩ := HWB9.out x9 (List.mem_of_getElem? hx9)
                              obtain ⟨u, rfl⟩ := Int.eq_ofNat_of_zero_le x0
                              have hur : u < r := by omega
                              have hws := wp1_snoc (q : Int) (wl.take i) (u : Int)
                              have HTK2 : Hid (wl.take (i + 1) = wl.take i ++ [(u : Int)]) := Lib.hid (by rw [List.take_add_one, hx9]; rfl)
                              rw [← HTK2.out] at hws
                              have hqI : (q : Int) < (r : Int) := by omega
                              cases hb : ((u : Int) != (q : Int)) with
                              | false =>
                                rw [if_neg (by simpa using hb), List.append_nil] at hws
                                rw [← hws] at he
                                have HES := Lib.hid he
                                clear he hx9 x0 x1 hws
                                go_wp2_with fail
                                go_roundg (wl.length - (i + 1))
                                case measure => omega
                                case rel => exact ⟨i + 1, by omega, rfl, by go_num, HES.out⟩
                              | true =>
                                rw [if_pos (by simpa using hb)] at hws
                                have hne : u ≠ q := by intro e; rw [e] at hb; simp at hb
                                obtain ⟨bq, hbq⟩ : ∃ b, wb[q]? = some b := ⟨_, List.getElem?_eq_getElem (by rw [HWR.out]; exact hqr)⟩
                                obtain ⟨bu, hbu⟩ : ∃ b, wb[u]? = some b := ⟨_, List.getElem?_eq_getElem (by rw [HWR.out]; exact hur)⟩
                                have hbne : bq ≠ bu := fun e => by have := he.m.inj q u bq hbq (by rw [e]; exact hbu); omega
                                have hbne2 : bu ≠ bq := Ne.symm hbne
                                obtain ⟨y', ey, yu⟩ := he.mcell hbu HWR.out.symm
                                obtain ⟨y, rfl, yq⟩ := he.mcell hbq HWR.out.symm
                                obtain rfl : y = y' := by injection ey with e1; injection e1
                                obtain ⟨k0, k1, k2, k3, kf⟩ := he.cells
                                have m0 := (he.m.row q bq hbq).1.cell (mrow_get _ q hur)
                                have mf := (he.m.row q bq hbq).1.unfrozen u
                                have m1 := (he.m.row u bu hbu).1.cell (mrow_get _ u hqr)
                                have mg := (he.m.row u bu hbu).1.unfrozen q
                                have HR1 := Lib.hid (((he.setM hbq hur).setM hbu hqr).drew.congr (L' := wdL f rc s r (ts.take n) ++ wpairs (kept.take j) risky wl ++ wp1 (q : Int) (wl.take (i + 1))) (fun z => by rw [hws]; exact pm1 _ _ _ _ z))
                                have HR2 := Lib.hid (((he.setM hbu hqr).setM hbq hur).drew.congr (L' := wdL f rc s r (ts.take n) ++ wpairs (kept.take j) risky wl ++ wp1 (q : Int) (wl.take (i + 1))) (fun z => by rw [hws]; exact pm2 _ _ _ _ z))
                                clear he hx9 x0 x1 hws ey hbq hbu
                                go_upto_region 46 with fail
                                clear d0
                                go_region
                                all_goals
                                  go_wp2_with fail
                                  go_roundg (wl.length - (i + 1))
                                  case measure => omega
                                  case rel =>
                                    first
                                    | exact ⟨i + 1, by omega, rfl, by go_num, HR1.out⟩
                                    | exact ⟨i + 1, by omega, rfl, by go_num, HR2.out⟩
                            · obtain rfl : i = wl.length := by omega
                              have e9 : wdL f rc s r (ts.take n) ++ wpairs (kept.take j) risky wl ++ wp1 (q : Int) wl = wdL f rc s r (ts.take n) ++ wpairs (kept.take (j + 1)) risky wl := by rw [HWS.out, List.append_assoc]
                              rw [List.take_length, e9] at he
                              clear e9
                              have HES := Lib.hid he
                              clear he
                              go_wp2_with fail
                              go_roundg (kept.length - (j + 1))
                              case measure => omega
                              case rel => exact ⟨j + 1, by omega, rfl, by go_num, HES.out⟩
                      · obtain rfl : j = kept.length := by omega
                        rw [List.take_length] at he
                        have HES := Lib.hid ((HEI.out.trans HE15.out).trans he)
                        clear he
                        go_wp2_with fail
                        go_roundg (ts.length - (n + 1))
                        case measure => omega
                        case rel => exact ⟨n + 1, by omega, rfl, by go_num, by rw [HAT.out, HWT.out, ← List.append_assoc]; exact HES.out⟩
              · obtain rfl : n = ts.length := by omega
                rw [List.take_length] at he
                obtain ⟨-, -, -, hr9, -, hrw9⟩ := HSET.out _ _ _ _ _ he
                obtain ⟨k0, k1, k2, k3, kf⟩ := he.cells
                have r0 := Go.Joins.cell_of_block hr9 0
                have r1 := Go.Joins.cell_of_block hr9 1
                have r2 := Go.Joins.cell_of_block hr9 2
                have r3 := Go.Joins.cell_of_block hr9 3
                have g0 := Go.Joins.unfrozen_of_block hr9 0
                have g1 := Go.Joins.unfrozen_of_block hr9 1
                have g2 := Go.Joins.unfrozen_of_block hr9 2
                have g3 := Go.Joins.unfrozen_of_block hr9 3
                have hkw : kb ≠ w.heap.size + 1 := by omega
                have HE := Lib.hid he
                clear he hr9
                go_wp2_with fail
                try simp only [Exit.inBlock, Exit.then]
                refine bodyPost_ret (v := .tuple #[.agg #[.slice (some ⟨g, 0, none⟩) r r, .slice (some ⟨nb, 0, none⟩) r r, .slice (some ⟨ab, 0, none⟩) r r, .slice A0 r c0], .int .i64 0]) (by rw [results_cell_tmp rfl]; go_simp) rfl ?_
                have hk : ∀ k, k ≠ w.heap.size + 1 → ((((wr.setCell ⟨w.heap.size + 1, 0, none⟩ (.slice (some ⟨g, 0, none⟩) r r)).setCell ⟨w.heap.size + 1, 1, none⟩ (.slice (some ⟨nb, 0, none⟩) r r)).setCell ⟨w.heap.size + 1, 2, none⟩ (.slice (some ⟨ab, 0, none⟩) r r)).setCell ⟨w.heap.size + 1, 3, none⟩ (.slice A0 r c0)).heap[k]? = wr.heap[k]? := fun k hk => (heap_other _ hk).trans ((heap_other _ hk).trans ((heap_other _ hk).trans (heap_other _ hk)))
                have hb := (((HE.out.b0.setCell (p := ⟨w.heap.size + 1, 0, none⟩) (Nat.le_succ _) (.slice (some ⟨g, 0, none⟩) r r)).setCell (p := ⟨w.heap.size + 1, 1, none⟩) (Nat.le_succ _) (.slice (some ⟨nb, 0, none⟩) r r)).setCell (p := ⟨w.heap.size + 1, 2, none⟩) (Nat.le_succ _) (.slice (some ⟨ab, 0, none⟩) r r)).setCell (p := ⟨w.heap.size + 1, 3, none⟩) (Nat.le_succ _) (.slice A0 r c0)
                have hsz : ((((wr.setCell ⟨w.heap.size + 1, 0, none⟩ (.slice (some ⟨g, 0, none⟩) r r)).setCell ⟨w.heap.size + 1, 1, none⟩ (.slice (some ⟨nb, 0, none⟩) r r)).setCell ⟨w.heap.size + 1, 2, none⟩ (.slice (some ⟨ab, 0, none⟩) r r)).setCell ⟨w.heap.size + 1, 3, none⟩ (.slice A0 r c0)).heap.size = wr.heap.size := by rw [World.size_setCell, World.size_setCell, World.size_setCell, World.size_setCell]
                have he' := HE.out.upd hb hk (by omega) (by omega) (by omega) (by omega)
                have hrw := (HCL12.out _ _ _ _ _ HE.out).keep (P' := fun k => wc.heap.size ≤ k ∧ k < lo) fun k hk9 => ⟨hk9, hk k (by omega)⟩
                have hz12 := HE.out.sz
                have hz36 := HE36.out.sz
                have hz612 := HE612.out.sz
                have hz3 := HSZ3.out
                have hka := he'.kat HWR.out hrw (fun k hk9 => by rw [hsz]; omega)
                refine ⟨rc, s, ⟨g, nb, ab, A, c, A0, c0, fun a => (wb[a]?).getD 0⟩, rfl, ?_, HFO.out, HLI.out, HCLT.out, hb⟩
                rw [HTS.out]
                exact hka
end Go.Proofs.YthgbmhpfblgjcaaGreatDoor.fl
