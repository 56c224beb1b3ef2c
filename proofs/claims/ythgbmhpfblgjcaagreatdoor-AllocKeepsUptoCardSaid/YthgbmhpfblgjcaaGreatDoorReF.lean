/-
  The reference's point at the beginning of the one sample's block. Condition: the sample stands.
-/
import Derived.Test.YthgbmhpfblgjcaaGreatDoorReD
set_option linter.unusedVariables false
set_option linter.unusedSimpArgs false
namespace Go.Proofs.YthgbmhpfblgjcaaGreatDoor.fl
open Go.RowKit Go.Shelf
open M T ty
set_option linter.unusedVariables false
theorem mk84_1 (w : World) : (Instr.makeSlice 84 (.int .i64 1) (.int .i64 1)).run Tryz.prog w = .ok (.slice (some ⟨w.heap.size, 0, none⟩) 1 1) (w.alloc (.cells #[.bool false] 4)) := by
  have h := run_make_row' (P := Tryz.prog) 84 4 (.bool false) 1 Tryz.underlying84 info4 rfl .i64 .i64 1 (by omega) (by omega) w
  rw [made_false] at h
  exact h
theorem mk84_3 (w : World) : (Instr.makeSlice 84 (.int .i64 3) (.int .i64 3)).run Tryz.prog w = .ok (.slice (some ⟨w.heap.size, 0, none⟩) 3 3) (w.alloc (.cells #[.bool false, .bool false, .bool false] 4)) := by
  have h := run_make_row' (P := Tryz.prog) 84 4 (.bool false) 1 Tryz.underlying84 info4 rfl .i64 .i64 3 (by omega) (by omega) w
  rw [made_false] at h
  exact h
theorem mk138_3 (w : World) : (Instr.makeSlice 138 (.int .i64 3) (.int .i64 3)).run Tryz.prog w = .ok (.slice (some ⟨w.heap.size, 0, none⟩) 3 3) (w.alloc (.cells #[.bool false, .bool false, .bool false] 4)) := by
  have h := run_make_row' (P := Tryz.prog) 138 4 (.bool false) 1 Tryz.underlying138 info4 rfl .i64 .i64 3 (by omega) (by omega) w
  rw [made_false] at h
  exact h
set_option maxRecDepth 20000 in
set_option maxHeartbeats 4000000 in
theorem reached_117 (eb c : Nat) (R : Option Addr) (rc : Nat) (w : World) (h : w.cell? ⟨eb, 0, none⟩ = some (.slice R 0 rc)) (hl : eb < w.heap.size) : Calls Tryz.prog 117 #[.slice (some ⟨eb, 0, none⟩) 1 c, .int .i64 (-1)] w fun e w' => e = .returned (.slice (some ⟨w.heap.size, 0, none⟩) 1 1) ∧ BoolsAt w' w.heap.size [true] ∧ Below w.heap.size w w' := by
  have hmk := mk84_1
  have HE : Hid (∀ W, W.heap[w.heap.size]? = some (.cells #[.bool true] 4 (0, 0)) → BoolsAt W w.heap.size [true]) := Lib.hid fun W h => h
  go_enter Tryz.func117, Tryz.ntmps117
  go_wp2_with fail
  refine wp_loop_rounds 2 ?_
  rw [rounds_succ]
  go_wp2_with fail
  refine wp_loop_rounds 2 ?_
  rw [rounds_succ]
  go_wp2_with fail
  refine wp_loop_rounds 1 ?_
  rw [rounds_succ]
  go_wp2_with fail
  rw [rounds_succ]
  go_wp2_with fail
  rw [rounds_succ]
  go_wp2_with fail
  go_ret
  exact ⟨rfl, HE.out _ (heap_alloc_new w _), (Below.refl _ _).alloc (Nat.le_refl _) _⟩
set_option maxRecDepth 20000 in
set_option maxHeartbeats 4000000 in
theorem Reached_72 (bb ob : Nat) (w : World) (h : Sm w bb ob) : Calls Tryz.prog 72 #[smV bb] w fun e w' => ∃ ab, e = .returned (.tuple #[.slice (some ⟨ab, 0, none⟩) 1 1, .int .i64 0]) ∧ BoolsAt w' ab [true] ∧ w.heap.size ≤ ab ∧ Below w.heap.size w w' := by
  have H0 := Lib.hid h.boxed
  have HB := Lib.hid ((Below.refl w.heap.size w).alloc (Nat.le_refl _) (.cells #[.string ⟨#[102]⟩, .int .i64 2, .int .i64 3, .slice none 0 0, .slice (some ⟨bb, 0, none⟩) 1 1] 25))
  have HCF := Lib.hid (fun W (hW : Sm W bb ob) => CheckFunc_42 bb ob W hW)
  have HED := Lib.hid (fun W (hW : Sm W bb ob) => edges_118 bb ob W hW)
  clear h
  unfold smV at HCF HED ⊢
  go_enter Tryz.func72, Tryz.ntmps72
  go_wp2_with (first
    | (go_at_call 117; (have hnow := HR); go_loud ((refine HR.out.mono ?_; rintro e w3 ⟨rfl, hbo, hb3⟩; have HBO := Lib.hid hbo; have HB3 := Lib.hid (HB2.out.trans (hb3.mono HB2.out.size)); clear hbo hb3)))
    | (go_at_call 118; (have hnow := H1); go_loud ((refine (HED.out _ H1.out.sm).mono ?_; rintro e w2 ⟨eb, ec, R, rc, rfl, hec, hel, hb2⟩; have HR := Lib.hid (reached_117 eb ec R rc w2 hec hel); have HB2 := Lib.hid (HB1.out.trans (hb2.mono HB1.out.size)); clear hec hel hb2)))
    | (go_at_call 42; go_loud ((refine (HCF.out _ H0.out.sm).mono ?_; rintro e w1 ⟨rfl, hb1⟩; have h1 := H0.out.after hb1; obtain ⟨c0, c1, c2, c3, c4⟩ := h1.cells; have H1 := Lib.hid h1; have HB1 := Lib.hid (HB.out.trans (hb1.mono HB.out.size)); clear h1 hb1))))
  go_ret2
  exact ⟨_, rfl, HBO.out, HB2.out.size, HB3.out⟩
set_option maxRecDepth 20000 in
set_option maxHeartbeats 4000000 in
theorem list_81 (g : Nat) (bs : List Bool) (w : World) (hg : BoolsAt w g bs) (hn : bs.length ≤ 4096) :
    Calls Tryz.prog 81 #[.slice (some ⟨g, 0, none⟩) bs.length bs.length] w fun e w' => ∃ v, e = .returned v ∧ IntsAt w' w.heap.size v (trues bs bs.length) ∧ Below w.heap.size w w' := by
  have HG := Lib.hid hg
  have hgl := hg.lt
  have HO0 := Lib.hid (own_zero w w.heap.size (Nat.le_refl _) 3)
  have HB0 := Lib.hid ((Below.refl w.heap.size w).alloc (Nat.le_refl _) (.cells #[] 3))
  clear hg
  have hnI : (bs.length : Int) ≤ 4096 := by omega
  go_enter Tryz.func81, Tryz.ntmps81
  go_wp2_with fail
  go_loopg [4, 3] bs.length (fun N i t wr => ∃ k, k ≤ bs.length ∧ N = bs.length - k ∧ i = .int .i64 k ∧ wr.ownsRow w.heap.size 3 1 t (trues bs k).length (ints (trues bs k)) ∧ Below w.heap.size w wr)
  case atStart => exact ⟨0, by omega, rfl, rfl, HO0.out, HB0.out⟩
  case round =>
    obtain ⟨k, hk, rfl, rfl, hown, hbl⟩ := hrel
    obtain ⟨A9, c9, rfl, -, -⟩ := own_form hown
    have HO := Lib.hid hown
    have HB := Lib.hid hbl
    clear hown hbl
    by_cases hlt : k < bs.length
    · have hlI : (k : Int) < (bs.length : Int) := by omega
      have hb : bs[k]? = some bs[k] := List.getElem?_eq_getElem hlt
      have a0 := (BoolsAt.below HG.out HB.out hgl).cell hb
      have HT := Lib.hid (trues_succ bs k _ hb)
      have htl := trues_len bs k
      clear hb
      cases hbk : bs[k] with
      | false =>
        rw [hbk] at a0 HT
        clear hbk
        go_wp2_with fail
        go_roundg (bs.length - (k + 1))
        case measure => omega
        case rel => exact ⟨k + 1, by omega, rfl, by go_num, by rw [HT.out]; exact HO.out, HB.out⟩
      | true =>
        rw [hbk] at a0 HT
        clear hbk
        have hsz := HB.out.size
        go_wp2_with (at_builtin; go_loud (refine wpList_app_one (w := wr.alloc (.cells #[.int .i64 k] 3)) rfl (.tmp 16) (.tmp 18) rfl (r := (k : Int)) rfl (HO.out.alloc _) rfl (heap_alloc_new wr _) (by omega) (by simp; omega) ?_); intro v6 w6 ho6 hg6; obtain ⟨A6, c6, rfl, -, -⟩ := own_form ho6; have HO6 := Lib.hid ho6; have HG6 := Lib.hid hg6; clear ho6 hg6)
        go_roundg (bs.length - (k + 1))
        case measure => omega
        case rel =>
          refine ⟨k + 1, by omega, rfl, by go_num, ?_, ?_⟩
          · have := HT.out
            simp only [if_true] at this
            rw [this]
            have h6 := HO6.out
            simpa using h6
          · exact (HB.out.alloc hsz _).grown HG6.out (by simp; omega) (fun j hj => (HO.out.lt j hj).1)
    · obtain rfl : k = bs.length := by omega
      go_wp2_with fail
      go_ret
      exact ⟨_, rfl, ⟨A9, c9, rfl, HO.out⟩, HB.out⟩
/-- a function, its edges, which blocks are reached, what is live -/
def lvV (bb eb ec ab ib ic : Nat) : Value := .agg #[.string ⟨#[102]⟩, .int .i64 2, .int .i64 3, .slice none 0 0, .slice (some ⟨bb, 0, none⟩) 1 1, .slice (some ⟨eb, 0, none⟩) 1 ec, .slice (some ⟨ab, 0, none⟩) 1 1, .slice (some ⟨ib, 0, none⟩) 1 ic]
structure Lv0 (W : World) (bb ob eb : Nat) : Prop where
  sm : Sm W bb ob
  ed : ∃ R rc, W.cell? ⟨eb, 0, none⟩ = some (.slice R 0 rc)
  el : eb < W.heap.size
theorem Lv0.after {W W' : World} {bb ob eb : Nat} (h : Lv0 W bb ob eb) (hb : Below W.heap.size W W') : Lv0 W' bb ob eb := ⟨h.sm.after hb, by obtain ⟨R, rc, e⟩ := h.ed; exact ⟨R, rc, (hb.cell (p := ⟨eb, 0, none⟩) h.el).trans e⟩, Nat.lt_of_lt_of_le h.el hb.size⟩
set_option maxRecDepth 20000 in
set_option maxHeartbeats 4000000 in
theorem end_87 (bb ob eb ec ab ib ic : Nat) (w : World) (h : Lv0 w bb ob eb) : Calls Tryz.prog 87 #[lvV bb eb ec ab ib ic, .int .i64 0] w fun e w' => ∃ tb, e = .returned (.slice (some ⟨tb, 0, none⟩) 3 3) ∧ BoolsAt w' tb [false, false, false] ∧ w.heap.size ≤ tb ∧ Below w.heap.size w w' := by
  have hmk := mk138_3
  obtain ⟨b0, b1, b2, b3, b4, b5⟩ := h.sm.bcells
  obtain ⟨R, rc, e0⟩ := h.ed
  have hbl := h.sm.bl
  have hel := h.el
  clear h
  unfold lvV
  go_enter Tryz.func87, Tryz.ntmps87
  go_wp2_with fail
  have hb := ((((Below.refl w.heap.size w).alloc (Nat.le_refl _) (.cells #[.string ⟨#[102]⟩, .int .i64 2, .int .i64 3, .slice none 0 0, .slice (some ⟨bb, 0, none⟩) 1 1, .slice (some ⟨eb, 0, none⟩) 1 ec, .slice (some ⟨ab, 0, none⟩) 1 1, .slice (some ⟨ib, 0, none⟩) 1 ic] 135)).alloc (by simp) (.cells #[.bool false, .bool false, .bool false] 4)).alloc (by simp; omega) (.cells #[.int .i64 3, .int .i64 2, .int .i64 (-1), .int .i64 0, .int .i64 0] 50))
  have f0 := (hb.cell (p := ⟨eb, 0, none⟩) hel).trans e0
  have hx : (((w.alloc (.cells #[.string ⟨#[102]⟩, .int .i64 2, .int .i64 3, .slice none 0 0, .slice (some ⟨bb, 0, none⟩) 1 1, .slice (some ⟨eb, 0, none⟩) 1 ec, .slice (some ⟨ab, 0, none⟩) 1 1, .slice (some ⟨ib, 0, none⟩) 1 ic] 135)).alloc (.cells #[.bool false, .bool false, .bool false] 4)).alloc (.cells #[.int .i64 3, .int .i64 2, .int .i64 (-1), .int .i64 0, .int .i64 0] 50)).heap[w.heap.size]? = some (.cells #[.string ⟨#[102]⟩, .int .i64 2, .int .i64 3, .slice none 0 0, .slice (some ⟨bb, 0, none⟩) 1 1, .slice (some ⟨eb, 0, none⟩) 1 ec, .slice (some ⟨ab, 0, none⟩) 1 1, .slice (some ⟨ib, 0, none⟩) 1 ic] 135 (0, 0)) := al3_0 w _ _ _
  have ht : BoolsAt (((w.alloc (.cells #[.string ⟨#[102]⟩, .int .i64 2, .int .i64 3, .slice none 0 0, .slice (some ⟨bb, 0, none⟩) 1 1, .slice (some ⟨eb, 0, none⟩) 1 ec, .slice (some ⟨ab, 0, none⟩) 1 1, .slice (some ⟨ib, 0, none⟩) 1 ic] 135)).alloc (.cells #[.bool false, .bool false, .bool false] 4)).alloc (.cells #[.int .i64 3, .int .i64 2, .int .i64 (-1), .int .i64 0, .int .i64 0] 50)) (w.heap.size + 1) [false, false, false] := al3_1 w _ _ _
  have x5 := Go.Joins.cell_of_block hx 5
  have HT := Lib.hid ht
  have HB := Lib.hid hb
  clear hb hx ht e0
  generalize ((w.alloc (.cells #[.string ⟨#[102]⟩, .int .i64 2, .int .i64 3, .slice none 0 0, .slice (some ⟨bb, 0, none⟩) 1 1, .slice (some ⟨eb, 0, none⟩) 1 ec, .slice (some ⟨ab, 0, none⟩) 1 1, .slice (some ⟨ib, 0, none⟩) 1 ic] 135)).alloc (.cells #[.bool false, .bool false, .bool false] 4)).alloc (.cells #[.int .i64 3, .int .i64 2, .int .i64 (-1), .int .i64 0, .int .i64 0] 50) = W3 at *
  refine wp_loop_rounds 1 ?_
  rw [rounds_succ]
  go_wp2_with fail
  go_ret
  exact ⟨_, rfl, HT.out, Nat.le_succ _, HB.out⟩
theorem Jumps_78 (w : World) : Calls Tryz.prog 78 #[opV9] w fun e w' => e = .returned (.bool false) ∧ Below w.heap.size w w' := by
  unfold opV9
  go_enter Tryz.func78, Tryz.ntmps78
  go_wp2_with fail
  go_ret
  exact ⟨rfl, (Below.refl _ _).alloc (Nat.le_refl _) _⟩
structure PtB (W : World) (bb ob eb ec ab ib ic xb pb tb : Nat) (bs : List Bool) : Prop where
  lv : Lv0 W bb ob eb
  x : W.heap[xb]? = some (.cells #[.string ⟨#[102]⟩, .int .i64 2, .int .i64 3, .slice none 0 0, .slice (some ⟨bb, 0, none⟩) 1 1, .slice (some ⟨eb, 0, none⟩) 1 ec, .slice (some ⟨ab, 0, none⟩) 1 1, .slice (some ⟨ib, 0, none⟩) 1 ic] 135 (0, 0))
  p : W.heap[pb]? = some (.cells #[.slice (some ⟨ob, 0, none⟩) 1 1, .int .i64 3, .int .i64 2, .int .i64 (-1), .int .i64 0, .int .i64 0] 52 (0, 0))
  t : BoolsAt W tb bs
  ne : tb ≠ xb ∧ tb ≠ pb ∧ tb ≠ bb ∧ tb ≠ ob ∧ tb ≠ eb
set_option maxRecDepth 20000 in
set_option maxHeartbeats 4000000 in
theorem point_1 (bb ob eb ec ab ib ic : Nat) (w : World) (h : Lv0 w bb ob eb) : Calls Tryz.prog 77 #[lvV bb eb ec ab ib ic, .int .i64 0, .int .i64 1] w fun e w' => ∃ tb, e = .returned (.slice (some ⟨tb, 0, none⟩) 3 3) ∧ BoolsAt w' tb [false, false, true] ∧ w.heap.size ≤ tb ∧ Below w.heap.size w w' := by
  have hb := (Below.refl w.heap.size w).alloc (Nat.le_refl _) (.cells #[.string ⟨#[102]⟩, .int .i64 2, .int .i64 3, .slice none 0 0, .slice (some ⟨bb, 0, none⟩) 1 1, .slice (some ⟨eb, 0, none⟩) 1 ec, .slice (some ⟨ab, 0, none⟩) 1 1, .slice (some ⟨ib, 0, none⟩) 1 ic] 135)
  have h0 := h.after hb
  have HEN := Lib.hid (end_87 bb ob eb ec ab ib ic _ h0)
  have HX := Lib.hid (heap_alloc_new w (.cells #[.string ⟨#[102]⟩, .int .i64 2, .int .i64 3, .slice none 0 0, .slice (some ⟨bb, 0, none⟩) 1 1, .slice (some ⟨eb, 0, none⟩) 1 ec, .slice (some ⟨ab, 0, none⟩) 1 1, .slice (some ⟨ib, 0, none⟩) 1 ic] 135))
  have H0 := Lib.hid h0
  have HB := Lib.hid hb
  clear h h0 hb
  unfold lvV at HEN ⊢
  go_enter Tryz.func77, Tryz.ntmps77
  go_upto_region 3 with (go_at_call 87; go_loud ((refine HEN.out.mono ?_; rintro e w1 ⟨tb, rfl, ht, htl, hb1⟩; have h1 := H0.out.after hb1; have hx1 := (hb1.block w.heap.size (by simp)).trans HX.out; have x4 := Go.Joins.cell_of_block hx1 4; obtain ⟨b0, b1, b2, b3, b4, b5⟩ := h1.sm.bcells; have l0 := h1.sm.bl; have l1 := (Array.getElem?_eq_some_iff.1 hx1).1; have H1 := Lib.hid h1; have HX1 := Lib.hid hx1; have HT1 := Lib.hid ht; have HB1 := Lib.hid hb1; rw [World.size_alloc] at htl; clear h1 hx1 ht hb1)))
  have hbp := (Below.refl w1.heap.size w1).alloc (Nat.le_refl _) (.cells #[.slice (some ⟨ob, 0, none⟩) 1 1, .int .i64 3, .int .i64 2, .int .i64 (-1), .int .i64 0, .int .i64 0] 52)
  have H2 := Lib.hid (H1.out.after hbp)
  have HP2 := Lib.hid (heap_alloc_new w1 (.cells #[.slice (some ⟨ob, 0, none⟩) 1 1, .int .i64 3, .int .i64 2, .int .i64 (-1), .int .i64 0, .int .i64 0] 52))
  have HT2 := Lib.hid (HT1.out.below hbp HT1.out.lt)
  have HB2 := Lib.hid ((HB.out.trans (HB1.out.mono HB.out.size)).trans (hbp.mono (Nat.le_trans HB.out.size HB1.out.size)))
  have hpt : tb < w1.heap.size := HT1.out.lt
  clear x4 b0 b1 b2 b3 b4 b5 l0 l1 hbp
  generalize w1.alloc (.cells #[.slice (some ⟨ob, 0, none⟩) 1 1, .int .i64 3, .int .i64 2, .int .i64 (-1), .int .i64 0, .int .i64 0] 52) = W2 at *
  generalize w1.heap.size = pb at *
  have HEX := Lib.hid (Exits_any W2)
  unfold exV9 at HEX
  have p1 := Go.Joins.cell_of_block HP2.out 1
  have p2 := Go.Joins.cell_of_block HP2.out 2
  have p3 := Go.Joins.cell_of_block HP2.out 3
  have p4 := Go.Joins.cell_of_block HP2.out 4
  have p5 := Go.Joins.cell_of_block HP2.out 5
  go_wp2_with (go_at_call 73; go_loud ((refine HEX.out.mono ?_; rintro e w3 ⟨v3, rfl, hv3, hb3⟩; have HV3 := Lib.hid hv3; have HB3 := Lib.hid hb3; clear hv3 hb3)))
  clear p1 p2 p3 p4 p5
  obtain ⟨A3, c3, rfl, ho3⟩ := HV3.out
  obtain ⟨y, rfl, y1, y2, y3⟩ := own_at ho3 (by simp)
  have r0 := y3 0 _ rfl
  have ht3 := HT2.out.below HB3.out HT2.out.lt
  have t2 := ht3.cell (j := 2) rfl
  have tf := ht3.unfrozen 2
  have hp3 := (HB3.out.block pb (Array.getElem?_eq_some_iff.1 HP2.out).1).trans HP2.out
  have q0 := Go.Joins.cell_of_block hp3 0
  have hpl := (Array.getElem?_eq_some_iff.1 hp3).1
  have htp : tb ≠ pb := by omega
  have HT3 := Lib.hid (ht3.set 2 true)
  have HB4 := Lib.hid ((HB2.out.trans (HB3.out.mono HB2.out.size)).setCell (p := ⟨tb, 2, none⟩) (by show w.heap.size ≤ tb; omega) (.bool true))
  clear ht3 hp3 ho3
  refine wp_loop_rounds 2 ?_
  rw [rounds_succ]
  go_wp2_with fail
  rw [rounds_succ]
  go_wp2_with fail
  refine wp_loop_rounds 1 ?_
  rw [rounds_succ]
  go_wp2_with fail
  go_ret
  exact ⟨_, rfl, HT3.out, by omega, HB4.out⟩
end Go.Proofs.YthgbmhpfblgjcaaGreatDoor.fl
namespace Go.Proofs.YthgbmhpfblgjcaaGreatDoor.fl
open Go.RowKit Go.Shelf
open M T ty
set_option linter.unusedVariables false
set_option maxRecDepth 20000 in
set_option maxHeartbeats 8000000 in
theorem point_0 (bb ob eb ec ab ib ic : Nat) (w : World) (h : Lv0 w bb ob eb) : Calls Tryz.prog 77 #[lvV bb eb ec ab ib ic, .int .i64 0, .int .i64 0] w fun e w' => ∃ tb, e = .returned (.slice (some ⟨tb, 0, none⟩) 3 3) ∧ BoolsAt w' tb [true, true, false] ∧ w.heap.size ≤ tb ∧ Below w.heap.size w w' := by
  have hb := (Below.refl w.heap.size w).alloc (Nat.le_refl _) (.cells #[.string ⟨#[102]⟩, .int .i64 2, .int .i64 3, .slice none 0 0, .slice (some ⟨bb, 0, none⟩) 1 1, .slice (some ⟨eb, 0, none⟩) 1 ec, .slice (some ⟨ab, 0, none⟩) 1 1, .slice (some ⟨ib, 0, none⟩) 1 ic] 135)
  have h0 := h.after hb
  have HEN := Lib.hid (end_87 bb ob eb ec ab ib ic _ h0)
  have HX := Lib.hid (heap_alloc_new w (.cells #[.string ⟨#[102]⟩, .int .i64 2, .int .i64 3, .slice none 0 0, .slice (some ⟨bb, 0, none⟩) 1 1, .slice (some ⟨eb, 0, none⟩) 1 ec, .slice (some ⟨ab, 0, none⟩) 1 1, .slice (some ⟨ib, 0, none⟩) 1 ic] 135))
  have H0 := Lib.hid h0
  have HB := Lib.hid hb
  clear h h0 hb
  unfold lvV at HEN ⊢
  go_enter Tryz.func77, Tryz.ntmps77
  go_upto_region 3 with (go_at_call 87; go_loud ((refine HEN.out.mono ?_; rintro e w1 ⟨tb, rfl, ht, htl, hb1⟩; have h1 := H0.out.after hb1; have hx1 := (hb1.block w.heap.size (by simp)).trans HX.out; have x4 := Go.Joins.cell_of_block hx1 4; obtain ⟨b0, b1, b2, b3, b4, b5⟩ := h1.sm.bcells; have l0 := h1.sm.bl; have l1 := (Array.getElem?_eq_some_iff.1 hx1).1; have H1 := Lib.hid h1; have HX1 := Lib.hid hx1; have HT1 := Lib.hid ht; have HB1 := Lib.hid hb1; rw [World.size_alloc] at htl; clear h1 hx1 ht hb1)))
  have hbp := (Below.refl w1.heap.size w1).alloc (Nat.le_refl _) (.cells #[.slice (some ⟨ob, 0, none⟩) 1 1, .int .i64 3, .int .i64 2, .int .i64 (-1), .int .i64 0, .int .i64 0] 52)
  have H2 := Lib.hid (H1.out.after hbp)
  have HP2 := Lib.hid (heap_alloc_new w1 (.cells #[.slice (some ⟨ob, 0, none⟩) 1 1, .int .i64 3, .int .i64 2, .int .i64 (-1), .int .i64 0, .int .i64 0] 52))
  have HT2 := Lib.hid (HT1.out.below hbp HT1.out.lt)
  have HB2 := Lib.hid ((HB.out.trans (HB1.out.mono HB.out.size)).trans (hbp.mono (Nat.le_trans HB.out.size HB1.out.size)))
  have hpt : tb < w1.heap.size := HT1.out.lt
  clear x4 b0 b1 b2 b3 b4 b5 l0 l1 hbp
  generalize w1.alloc (.cells #[.slice (some ⟨ob, 0, none⟩) 1 1, .int .i64 3, .int .i64 2, .int .i64 (-1), .int .i64 0, .int .i64 0] 52) = W2 at *
  generalize w1.heap.size = pb at *
  have HEX := Lib.hid (Exits_any W2)
  unfold exV9 at HEX
  have p1 := Go.Joins.cell_of_block HP2.out 1
  have p2 := Go.Joins.cell_of_block HP2.out 2
  have p3 := Go.Joins.cell_of_block HP2.out 3
  have p4 := Go.Joins.cell_of_block HP2.out 4
  have p5 := Go.Joins.cell_of_block HP2.out 5
  go_wp2_with (go_at_call 73; go_loud ((refine HEX.out.mono ?_; rintro e w3 ⟨v3, rfl, hv3, hb3⟩; have HV3 := Lib.hid hv3; have HB3 := Lib.hid hb3; clear hv3 hb3)))
  clear p1 p2 p3 p4 p5
  obtain ⟨A3, c3, rfl, ho3⟩ := HV3.out
  obtain ⟨y, rfl, y1, y2, y3⟩ := own_at ho3 (by simp)
  have r0 := y3 0 _ rfl
  have ht3 := HT2.out.below HB3.out HT2.out.lt
  have t2 := ht3.cell (j := 2) rfl
  have tf := ht3.unfrozen 2
  have hp3 := (HB3.out.block pb (Array.getElem?_eq_some_iff.1 HP2.out).1).trans HP2.out
  have q0 := Go.Joins.cell_of_block hp3 0
  have hpl := (Array.getElem?_eq_some_iff.1 hp3).1
  have htp : tb ≠ pb := by omega
  have hl3 := H2.out.after HB3.out
  have hsb := hl3.sm.bl
  have HT3 := Lib.hid (ht3.set 2 true)
  have HB4 := Lib.hid ((HB2.out.trans (HB3.out.mono HB2.out.size)).setCell (p := ⟨tb, 2, none⟩) (by show w.heap.size ≤ tb; omega) (.bool true))
  have HP4 : Hid ((w3.setCell ⟨tb, 2, none⟩ (.bool true)).heap[pb]? = some (.cells #[.slice (some ⟨ob, 0, none⟩) 1 1, .int .i64 3, .int .i64 2, .int .i64 (-1), .int .i64 0, .int .i64 0] 52 (0, 0))) := Lib.hid ((heap_other _ (Ne.symm htp)).trans hp3)
  have hot : ob ≠ tb := fun e => by
    have h9 := hl3.sm.o
    rw [e] at h9
    have := h9.symm.trans ht3
    simp at this
  have HO4 : Hid ((w3.setCell ⟨tb, 2, none⟩ (.bool true)).heap[ob]? = some (.cells #[.int .i64 3, .int .i64 2, .int .i64 0, .int .i64 1, .int .i64 0, .string ⟨#[]⟩, .slice none 0 0] 72 (0, 0))) := Lib.hid ((heap_other _ hot).trans hl3.sm.o)
  clear ht3 hp3 ho3 hl3 hsb
  refine wp_loop_rounds 2 ?_
  rw [rounds_succ]
  go_wp2_with fail
  clear q0 r0 t2 tf
  generalize w3.setCell ⟨tb, 2, none⟩ (.bool true) = W4 at *
  have q0 := Go.Joins.cell_of_block HP4.out 0
  have hpl4 := (Array.getElem?_eq_some_iff.1 HP4.out).1
  rw [rounds_succ]
  go_wp2_with fail
  have o0 := Go.Joins.cell_of_block HO4.out 0
  have o1 := Go.Joins.cell_of_block HO4.out 1
  have o2 := Go.Joins.cell_of_block HO4.out 2
  have o3 := Go.Joins.cell_of_block HO4.out 3
  have o4 := Go.Joins.cell_of_block HO4.out 4
  have o5 := Go.Joins.cell_of_block HO4.out 5
  have o6 := Go.Joins.cell_of_block HO4.out 6
  have hol := (Array.getElem?_eq_some_iff.1 HO4.out).1
  have t2 := HT3.out.cell (j := 2) rfl
  have tf := HT3.out.unfrozen 2
  have htl4 := HT3.out.lt
  have hsz4 : (W4.setCell ⟨tb, 2, none⟩ (.bool false)).heap.size = W4.heap.size := World.size_setCell _ _ _
  have hal := (Below.refl (W4.setCell ⟨tb, 2, none⟩ (.bool false)).heap.size (W4.setCell ⟨tb, 2, none⟩ (.bool false))).alloc (Nat.le_refl _) (.cells #[.int .i64 3, .int .i64 2, .int .i64 0, .int .i64 1, .int .i64 0, .string ⟨#[]⟩, .slice none 0 0] 72)
  have HT5 : Hid (BoolsAt ((W4.setCell ⟨tb, 2, none⟩ (.bool false)).alloc (.cells #[.int .i64 3, .int .i64 2, .int .i64 0, .int .i64 1, .int .i64 0, .string ⟨#[]⟩, .slice none 0 0] 72)) tb [false, false, false]) := Lib.hid ((HT3.out.set 2 false).below hal (by rw [hsz4]; exact HT3.out.lt))
  have htw : tb ≠ W4.heap.size := by omega
  have HX5 : Hid (((W4.setCell ⟨tb, 2, none⟩ (.bool false)).alloc (.cells #[.int .i64 3, .int .i64 2, .int .i64 0, .int .i64 1, .int .i64 0, .string ⟨#[]⟩, .slice none 0 0] 72)).heap[W4.heap.size]? = some (.cells #[.int .i64 3, .int .i64 2, .int .i64 0, .int .i64 1, .int .i64 0, .string ⟨#[]⟩, .slice none 0 0] 72 (0, 0))) := Lib.hid (by have h9 := heap_alloc_new (W4.setCell ⟨tb, 2, none⟩ (.bool false)) (.cells #[.int .i64 3, .int .i64 2, .int .i64 0, .int .i64 1, .int .i64 0, .string ⟨#[]⟩, .slice none 0 0] 72); rw [hsz4] at h9; exact h9)
  have HP5 : Hid (((W4.setCell ⟨tb, 2, none⟩ (.bool false)).alloc (.cells #[.int .i64 3, .int .i64 2, .int .i64 0, .int .i64 1, .int .i64 0, .string ⟨#[]⟩, .slice none 0 0] 72)).heap[pb]? = some (.cells #[.slice (some ⟨ob, 0, none⟩) 1 1, .int .i64 3, .int .i64 2, .int .i64 (-1), .int .i64 0, .int .i64 0] 52 (0, 0))) := Lib.hid ((hal.block pb (by rw [hsz4]; exact hpl4)).trans ((heap_other _ (Ne.symm htp)).trans HP4.out))
  have hb5 := HB4.out.setCell (p := ⟨tb, 2, none⟩) (by show w.heap.size ≤ tb; omega) (.bool false)
  have HB5 := Lib.hid (hb5.trans (hal.mono hb5.size))
  clear hal hb5 hsz4
  refine wp_loop_rounds 2 ?_
  rw [rounds_succ]
  have HRD := Lib.hid (Reads_74 ((W4.setCell ⟨tb, 2, none⟩ (.bool false)).alloc (.cells #[.int .i64 3, .int .i64 2, .int .i64 0, .int .i64 1, .int .i64 0, .string ⟨#[]⟩, .slice none 0 0] 72)))
  unfold opV9 at HRD
  go_wp2_with (go_at_call 74; go_loud ((refine HRD.out.mono ?_; rintro e w6 ⟨v6, rfl, hv6, hb6⟩; have HV6 := Lib.hid hv6; have HB6 := Lib.hid hb6; clear hv6 hb6)))
  clear o0 o1 o2 o3 o4 o5 o6 t2 tf q0 hol
  generalize (W4.setCell ⟨tb, 2, none⟩ (.bool false)).alloc (.cells #[.int .i64 3, .int .i64 2, .int .i64 0, .int .i64 1, .int .i64 0, .string ⟨#[]⟩, .slice none 0 0] 72) = W5 at *
  generalize W4.heap.size = xo at *
  obtain ⟨A6, c6, rfl, ho6⟩ := HV6.out
  obtain ⟨yb, rfl, yb1, yb2, yb3⟩ := own_at ho6 (by simp)
  have r0 := yb3 0 _ rfl
  have r1 := yb3 1 _ rfl
  have ht6 := HT5.out.below HB6.out HT5.out.lt
  have t0 := ht6.cell (j := 0) rfl
  have t0f := ht6.unfrozen 0
  have t1 := ht6.cell (j := 1) rfl
  have t1f := ht6.unfrozen 1
  have hyt : yb ≠ tb := by have := HT5.out.lt; omega
  have hx6 := (HB6.out.block xo (Array.getElem?_eq_some_iff.1 HX5.out).1).trans HX5.out
  have hp6 := (HB6.out.block pb (Array.getElem?_eq_some_iff.1 HP5.out).1).trans HP5.out
  have HT7 := Lib.hid ((ht6.set 0 true).set 1 true)
  have hxt : xo ≠ tb := Ne.symm htw
  have HX7 : Hid (((w6.setCell ⟨tb, 0, none⟩ (.bool true)).setCell ⟨tb, 1, none⟩ (.bool true)).heap[xo]? = some (.cells #[.int .i64 3, .int .i64 2, .int .i64 0, .int .i64 1, .int .i64 0, .string ⟨#[]⟩, .slice none 0 0] 72 (0, 0))) := Lib.hid ((heap_other _ hxt).trans ((heap_other _ hxt).trans hx6))
  have HP7 : Hid (((w6.setCell ⟨tb, 0, none⟩ (.bool true)).setCell ⟨tb, 1, none⟩ (.bool true)).heap[pb]? = some (.cells #[.slice (some ⟨ob, 0, none⟩) 1 1, .int .i64 3, .int .i64 2, .int .i64 (-1), .int .i64 0, .int .i64 0] 52 (0, 0))) := Lib.hid ((heap_other _ (Ne.symm htp)).trans ((heap_other _ (Ne.symm htp)).trans hp6))
  have HB7 := Lib.hid (((HB5.out.trans (HB6.out.mono HB5.out.size)).setCell (p := ⟨tb, 0, none⟩) (by show w.heap.size ≤ tb; omega) (.bool true)).setCell (p := ⟨tb, 1, none⟩) (by show w.heap.size ≤ tb; omega) (.bool true))
  clear ho6 ht6 hx6 hp6
  refine wp_loop_rounds 3 ?_
  rw [rounds_succ]
  go_wp2_with fail
  rw [rounds_succ]
  go_wp2_with fail
  generalize (w6.setCell ⟨tb, 0, none⟩ (.bool true)).setCell ⟨tb, 1, none⟩ (.bool true) = W7 at *
  clear r0 r1 t0 t0f t1 t1f
  have o0 := Go.Joins.cell_of_block HX7.out 0
  have o1 := Go.Joins.cell_of_block HX7.out 1
  have o2 := Go.Joins.cell_of_block HX7.out 2
  have o3 := Go.Joins.cell_of_block HX7.out 3
  have o4 := Go.Joins.cell_of_block HX7.out 4
  have o5 := Go.Joins.cell_of_block HX7.out 5
  have o6 := Go.Joins.cell_of_block HX7.out 6
  have HJ := Lib.hid (Jumps_78 W7)
  unfold opV9 at HJ
  rw [rounds_succ]
  go_wp2_with (go_at_call 78; go_loud ((refine HJ.out.mono ?_; rintro e w8 ⟨rfl, hb8⟩; have HB8 := Lib.hid (HB7.out.trans (hb8.mono HB7.out.size)); have HT8 := Lib.hid (HT7.out.below hb8 HT7.out.lt); clear hb8)))
  rw [rounds_succ]
  go_wp2_with fail
  go_ret
  exact ⟨_, rfl, HT8.out, by omega, HB8.out⟩
end Go.Proofs.YthgbmhpfblgjcaaGreatDoor.fl
