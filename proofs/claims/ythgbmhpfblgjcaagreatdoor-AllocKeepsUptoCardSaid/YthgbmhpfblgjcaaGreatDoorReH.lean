/-
  The reference's found at the one sample. Condition: the sample stands.
-/
import Derived.Test.YthgbmhpfblgjcaaGreatDoorReJ
set_option linter.unusedVariables false
set_option linter.unusedSimpArgs false
namespace Go.Proofs.YthgbmhpfblgjcaaGreatDoor.fl
open Go.RowKit Go.Shelf
open M T ty
set_option linter.unusedVariables false
set_option maxRecDepth 20000 in
set_option maxHeartbeats 16000000 in
theorem found_75 (bb ob : Nat) (w : World) (h : Sm w bb ob) : Calls Tryz.prog 75 #[smV bb] w fun e w' => ∃ eb ec ab ib ic tb, e = .returned (lvV bb eb ec ab ib ic) ∧ Lv0 w' bb ob eb ∧ BoolsAt w' ab [true] ∧ w'.cell? ⟨ib, 0, none⟩ = some (.slice (some ⟨tb, 0, none⟩) 3 3) ∧ ib < w'.heap.size ∧ BoolsAt w' tb [true, true, false] ∧ Below w.heap.size w w' := by
  have H0 := Lib.hid (h.boxed.alloc (.cells #[.string ⟨#[]⟩, .int .i64 0, .int .i64 0, .slice none 0 0, .slice none 0 0, .slice none 0 0, .slice none 0 0, .slice none 0 0] 135))
  have HED := Lib.hid (fun W (hW : Sm W bb ob) => edges_118 bb ob W hW)
  have HB := Lib.hid (((Below.refl w.heap.size w).alloc (Nat.le_refl _) (.cells #[.string ⟨#[102]⟩, .int .i64 2, .int .i64 3, .slice none 0 0, .slice (some ⟨bb, 0, none⟩) 1 1] 25)).alloc (by simp) (.cells #[.string ⟨#[]⟩, .int .i64 0, .int .i64 0, .slice none 0 0, .slice none 0 0, .slice none 0 0, .slice none 0 0, .slice none 0 0] 135))
  have hr := heap_alloc_new (w.alloc (.cells #[.string ⟨#[102]⟩, .int .i64 2, .int .i64 3, .slice none 0 0, .slice (some ⟨bb, 0, none⟩) 1 1] 25)) (.cells #[.string ⟨#[]⟩, .int .i64 0, .int .i64 0, .slice none 0 0, .slice none 0 0, .slice none 0 0, .slice none 0 0, .slice none 0 0] 135)
  rw [World.size_alloc] at hr
  have HR := Lib.hid hr
  have hsz : ((w.alloc (.cells #[.string ⟨#[102]⟩, .int .i64 2, .int .i64 3, .slice none 0 0, .slice (some ⟨bb, 0, none⟩) 1 1] 25)).alloc (.cells #[.string ⟨#[]⟩, .int .i64 0, .int .i64 0, .slice none 0 0, .slice none 0 0, .slice none 0 0, .slice none 0 0, .slice none 0 0] 135)).heap.size = w.heap.size + 2 := by simp
  have HLO : Hid (bb < w.heap.size ∧ ob < w.heap.size) := Lib.hid ⟨h.bl, h.ol⟩
  clear h hr
  unfold smV at HED ⊢
  go_enter Tryz.func75, Tryz.ntmps75
  go_upto_region 1 with fail
  generalize (w.alloc (.cells #[.string ⟨#[102]⟩, .int .i64 2, .int .i64 3, .slice none 0 0, .slice (some ⟨bb, 0, none⟩) 1 1] 25)).alloc (.cells #[.string ⟨#[]⟩, .int .i64 0, .int .i64 0, .slice none 0 0, .slice none 0 0, .slice none 0 0, .slice none 0 0, .slice none 0 0] 135) = W0 at *
  generalize hfb : w.heap.size = fb at *
  have HSZ := Lib.hid hsz
  have HFB := Lib.hid hfb
  have HFA : Hid (∀ (w2 : World) (eb ec : Nat) (R : Option Addr) (rc : Nat), Below W0.drew.heap.size W0.drew w2 → w2.cell? ⟨eb, 0, none⟩ = some (.slice R 0 rc) → eb < w2.heap.size → Fz w (w2.alloc (lvObj bb eb ec (.slice none 0 0) (.slice none 0 0))) fb bb ob w2.heap.size eb ec (.slice none 0 0) (.slice none 0 0)) := Lib.hid fun w2 eb ec R rc h1 h2 h3 => fz_a hfb.symm (by rw [hfb]; exact HLO.out) H0.out (by rw [hfb]; exact HB.out) (by rw [hfb]; exact hsz) (by rw [hfb]; exact HR.out) h1 h2 h3
  have HFC : Hid (∀ (w2 : World) (eb ec : Nat) (R : Option Addr) (rc : Nat), Below (W0.alloc zeroLv).drew.heap.size (W0.alloc zeroLv).drew w2 → w2.cell? ⟨eb, 0, none⟩ = some (.slice R 0 rc) → eb < w2.heap.size → Fz w ((((((((w2.setCell ⟨W0.heap.size, 0, none⟩ (.string ⟨#[102]⟩)).setCell ⟨W0.heap.size, 1, none⟩ (.int .i64 2)).setCell ⟨W0.heap.size, 2, none⟩ (.int .i64 3)).setCell ⟨W0.heap.size, 3, none⟩ (.slice none 0 0)).setCell ⟨W0.heap.size, 4, none⟩ (.slice (some ⟨bb, 0, none⟩) 1 1)).setCell ⟨W0.heap.size, 5, none⟩ (.slice (some ⟨eb, 0, none⟩) 1 ec)).setCell ⟨W0.heap.size, 6, none⟩ (.slice none 0 0)).setCell ⟨W0.heap.size, 7, none⟩ (.slice none 0 0)) fb bb ob W0.heap.size eb ec (.slice none 0 0) (.slice none 0 0)) := Lib.hid fun w2 eb ec R rc h1 h2 h3 => fz_b hfb.symm (by rw [hfb]; exact HLO.out) H0.out (by rw [hfb]; exact HB.out) (by rw [hfb]; exact hsz) (by rw [hfb]; exact HR.out) h1 h2 h3
  clear hsz hfb
  obtain ⟨c0, c1, c2, c3, c4⟩ := H0.out.cells
  have l0 := H0.out.fl
  go_cut [3] (fun s3 wc => ∃ lb eb ec, s3 = .pointer (some ⟨lb, 0, none⟩) ∧ Fz w wc fb bb ob lb eb ec (.slice none 0 0) (.slice none 0 0))
  case first =>
    have HNW : Hid ((W0.alloc (.cells #[.string ⟨#[]⟩, .int .i64 0, .int .i64 0, .slice none 0 0, .slice none 0 0, .slice none 0 0, .slice none 0 0, .slice none 0 0] 135)).drew.heap[W0.heap.size]? = some (.cells #[.string ⟨#[]⟩, .int .i64 0, .int .i64 0, .slice none 0 0, .slice none 0 0, .slice none 0 0, .slice none 0 0, .slice none 0 0] 135 (0, 0))) := Lib.hid (heap_alloc_new W0 (.cells #[.string ⟨#[]⟩, .int .i64 0, .int .i64 0, .slice none 0 0, .slice none 0 0, .slice none 0 0, .slice none 0 0, .slice none 0 0] 135))
    go_region_with (first
         | (go_at_call 118; with_reducible (refine (HED.out W0.drew H0.out.drew.sm).mono ?_); rintro e w2 ⟨eb, ec, R, rc, rfl, hec, hel, hb2⟩; obtain ⟨d0, d1, d2, d3, d4⟩ := (H0.out.drew.after hb2).cells; have l2 := (H0.out.drew.after hb2).fl; have HF9 := Lib.hid (HFA.out w2 eb ec R rc hb2 hec hel); clear hec hb2 hel)
         | (go_at_call 118; with_reducible (refine (HED.out (W0.alloc (.cells #[.string ⟨#[]⟩, .int .i64 0, .int .i64 0, .slice none 0 0, .slice none 0 0, .slice none 0 0, .slice none 0 0, .slice none 0 0] 135)).drew (H0.out.alloc _).drew.sm).mono ?_); rintro e w2 ⟨eb, ec, R, rc, rfl, hec, hel, hb2⟩; obtain ⟨d0, d1, d2, d3, d4⟩ := ((H0.out.alloc _).drew.after hb2).cells; have l2 := ((H0.out.alloc _).drew.after hb2).fl; have HF9 := Lib.hid (HFC.out w2 eb ec R rc hb2 hec hel); have hx2 : w2.heap[W0.heap.size]? = some (.cells #[.string ⟨#[]⟩, .int .i64 0, .int .i64 0, .slice none 0 0, .slice none 0 0, .slice none 0 0, .slice none 0 0, .slice none 0 0] 135 (0, 0)) := (hb2.block W0.heap.size (by simp)).trans HNW.out; have z0 := Go.Joins.cell_of_block hx2 0; have f0 := Go.Joins.unfrozen_of_block hx2 0; have z1 := Go.Joins.cell_of_block hx2 1; have f1 := Go.Joins.unfrozen_of_block hx2 1; have z2 := Go.Joins.cell_of_block hx2 2; have f2 := Go.Joins.unfrozen_of_block hx2 2; have z3 := Go.Joins.cell_of_block hx2 3; have f3 := Go.Joins.unfrozen_of_block hx2 3; have z4 := Go.Joins.cell_of_block hx2 4; have f4 := Go.Joins.unfrozen_of_block hx2 4; have z5 := Go.Joins.cell_of_block hx2 5; have f5 := Go.Joins.unfrozen_of_block hx2 5; have z6 := Go.Joins.cell_of_block hx2 6; have f6 := Go.Joins.unfrozen_of_block hx2 6; have z7 := Go.Joins.cell_of_block hx2 7; have f7 := Go.Joins.unfrozen_of_block hx2 7; clear hec hb2 hel hx2))
    all_goals
      go_wp2_with fail
      go_meet
      case rel => exact ⟨_, _, _, rfl, HF9.out⟩
  case rest =>
    obtain ⟨lb, eb, ec, rfl, h1⟩ := hcut
    clear HED H0 HB HR HSZ HFA HFC HLO c0 c1 c2 c3 c4 l0
    obtain ⟨R, rc, hed⟩ := h1.ed
    obtain ⟨x0, x1, x2, x3, x4, x5, x6, x7⟩ := h1.cells
    have HRE := Lib.hid (reached_117 eb ec R rc wc hed h1.el)
    have H1 := Lib.hid h1
    have hlb := h1.lbl
    clear h1 hed
    go_upto_region 6 with (go_at_call 117; go_loud ((refine HRE.out.mono ?_; rintro e w3 ⟨rfl, hab, hb3⟩; have h3 := H1.out.after hb3; obtain ⟨y0, y1, y2, y3, y4, y5, y6, y7⟩ := h3.cells; have yf := h3.free 6; have H3 := Lib.hid h3; have HAB := Lib.hid hab; have HB3 := Lib.hid hb3; clear h3 hab hb3)))
    have h4 := H3.out.setl (o := 6) (.slice (some ⟨wc.heap.size, 0, none⟩) 1 1) (.slice (some ⟨wc.heap.size, 0, none⟩) 1 1) (.slice none 0 0) rfl
    have hlne : lb ≠ wc.heap.size := by omega
    have HAB4 : Hid (BoolsAt (w3.setCell ⟨lb, 6, none⟩ (.slice (some ⟨wc.heap.size, 0, none⟩) 1 1)) wc.heap.size [true]) := Lib.hid ((heap_other _ (Ne.symm hlne)).trans HAB.out)
    have H4 := Lib.hid h4
    clear h4 HRE H1 H3 HAB HB3 x0 x1 x2 x3 x4 x5 x6 x7 y0 y1 y2 y3 y4 y5 y6 y7 yf hlb
    generalize w3.setCell ⟨lb, 6, none⟩ (.slice (some ⟨wc.heap.size, 0, none⟩) 1 1) = W4 at *
    generalize wc.heap.size = ab at *
    obtain ⟨c0, c1, c2, c3, c4⟩ := H4.out.s.cells
    have l0 := H4.out.s.fl
    have hlb := H4.out.lbl
    have x7 := H4.out.cells.2.2.2.2.2.2.2
    go_loopg [4] 1 (fun N t wr => (N = 1 ∧ t = .int .i64 0 ∧ W4 = wr) ∨ (N = 0 ∧ t = .int .i64 1 ∧ ∃ ib ic tb, Fy w wr fb bb ob lb eb ec ab ib ic tb [false, false, false]))
    case atStart => exact .inl ⟨rfl, rfl, rfl⟩
    case round =>
    rcases hrel with ⟨rfl, rfl, rfl⟩ | ⟨rfl, rfl, ib, ic, tb, hy⟩
    · go_upto_region 6 with fail
      have hmk := mk138_3
      obtain ⟨i1, hj, hy0, hy1, hy2⟩ := info_parts info138
      have hcl : ∀ a, (W4.alloc a).cell? ⟨lb, 7, none⟩ = some (.slice none 0 0) := fun a => (cell_of_heap (p := ⟨lb, 7, none⟩) (heap_alloc_lt W4 a hlb)).trans x7
      have hcl2 : ∀ a b, ((W4.alloc a).alloc b).cell? ⟨lb, 7, none⟩ = some (.slice none 0 0) := fun a b => (cell_of_heap (p := ⟨lb, 7, none⟩) (heap_alloc_lt _ b (show lb < _ by simp; omega))).trans (hcl a)
      have hx1 : 0 + 1 ≤ maxLen := by simp [maxLen]
      have hx2 : (0 + 1) * 24 ≤ 140737488355328 := by omega
      have HRD : Hid (Rd ((W4.drew.alloc (.cells #[.bool false, .bool false, .bool false] 4)).alloc (.cells #[.slice (some ⟨W4.heap.size, 0, none⟩) 3 3] 138)) (W4.heap.size + 2) (some ⟨W4.heap.size + 1, 0, none⟩) [.slice (some ⟨W4.heap.size, 0, none⟩) 3 3]) := Lib.hid (fun _ => ⟨_, rfl, by simp, fun j u hu => by
        rcases j with _ | j
        · have : u = .slice (some ⟨W4.heap.size, 0, none⟩) 3 3 := by simpa using hu.symm
          rw [this]
          have h9 := heap_alloc_new (W4.drew.alloc (.cells #[.bool false, .bool false, .bool false] 4)) (.cells #[.slice (some ⟨W4.heap.size, 0, none⟩) 3 3] 138)
          rw [World.size_alloc] at h9
          exact Go.Joins.cell_of_block h9 0
        · simp at hu⟩)
      have HONE : Hid (∀ u ∈ [Value.slice (some ⟨W4.heap.size, 0, none⟩) 3 3], u.oneCell' = true) := Lib.hid (fun u hu => by have : u = .slice (some ⟨W4.heap.size, 0, none⟩) 3 3 := (by simpa using hu); rw [this]; rfl)
      have HNW : Hid (∀ (w6 : World) (A : Option Addr) (ic : Nat), w6.ownsRow W4.heap.size 138 1 (.slice A 1 ic) 1 [.slice (some ⟨W4.heap.size, 0, none⟩) 3 3] → ((W4.drew.alloc (.cells #[.bool false, .bool false, .bool false] 4)).alloc (.cells #[.slice (some ⟨W4.heap.size, 0, none⟩) 3 3] 138)).grownBy w6 none → ∃ ib, A = some ⟨ib, 0, none⟩ ∧ w6.cell? ⟨lb, 7, none⟩ = some (.slice none 0 0) ∧ w6.frozen? ⟨lb, 7, none⟩ = false ∧ Fy w (w6.setCell ⟨lb, 7, none⟩ (.slice A 1 ic)) fb bb ob lb eb ec ab ib ic W4.heap.size [false, false, false]) := Lib.hid fun w6 A ic h1 h2 => fy_new (va := .slice none 0 0) (vi := .slice none 0 0) H4.out HAB4.out hlne h1 h2
      clear c0 c1 c3 c4 l0
      go_region_law (refine step_append_rd _ rfl (.tmp 25) (.tmp 29) 133 rfl W4.heap.size 138 i1 _ 1 24 Tryz.underlying133 hj hy0 hy1 hy2 rfl (by omega) (.slice none 0 0) 0 [] (by simp [Act.eval, Act.put]) (by exact World.ownsRow_nil _ _ _ _) _ (some ⟨W4.heap.size + 1, 0, none⟩) 1 1 [.slice (some ⟨W4.heap.size, 0, none⟩) 3 3] (by simp [Act.eval, Act.put]) rfl (by exact HRD.out) (by exact HONE.out) hx1 hx2 (by simp; omega) ?_; intro v6 w6 ho6 hg6 hv6; obtain ⟨A6, c6, rfl, -, -⟩ := own_form ho6; obtain ⟨ib, rfl, z7, zf, hfy⟩ := HNW.out w6 A6 c6 ho6 hg6; have HFY := Lib.hid hfy; clear ho6 hg6 hv6 hfy)
      all_goals
        obtain ⟨e0, e1, e2, e3, e4⟩ := HFY.out.z.s.cells
        clear hcl hcl2 HRD HONE HNW
        go_wp2_with fail
        go_roundg 0
        case measure => omega
        case rel => exact .inr ⟨rfl, by go_num, _, _, _, HFY.out⟩
    · clear H4 HAB4 hlne hlb x7 c0 c1 c2 c3 c4 l0
      obtain ⟨c0, c1, c2, c3, c4⟩ := hy.z.s.cells
      have HY := Lib.hid hy
      clear hy
      go_wp2_with fail
      clear c0 c1 c2 c3 c4
      go_loopg [5] 2 (fun N t wr => (N = 2 ∧ t = .bool true ∧ ∃ tb, Fy w wr fb bb ob lb eb ec ab ib ic tb [false, false, false]) ∨ (N = 1 ∧ t = .bool true ∧ ∃ tb, Fy w wr fb bb ob lb eb ec ab ib ic tb [true, true, false]) ∨ (N = 0 ∧ t = .bool false ∧ ∃ tb, Fy w wr fb bb ob lb eb ec ab ib ic tb [true, true, false]))
      case atStart => exact .inl ⟨rfl, rfl, _, HY.out⟩
      case round =>
      clear HY tb
      rcases hrel with ⟨rfl, rfl, tb, hy⟩ | ⟨rfl, rfl, tb, hy⟩ | ⟨rfl, rfl, tb, hy⟩
      · skip
        obtain ⟨c0, c1, c2, c3, c4⟩ := hy.z.s.cells
        obtain ⟨x0, x1, x2, x3, x4, x5, x6, x7⟩ := hy.z.cells
        have a0 := hy.a.cell (j := 0) rfl
        have HPT := Lib.hid (point_0 bb ob eb ec ab ib ic wr hy.z.lv0)
        have HY := Lib.hid hy
        clear hy
        unfold lvV at HPT
        go_wp2_with fail
        refine wp_loop_rounds 2 ?_
        rw [rounds_succ]
        go_wp2_with (go_at_call 77; go_loud ((refine HPT.out.mono ?_; rintro e w2 ⟨tb2, rfl, ht2, -, hb2⟩; have hy2 := HY.out.after hb2; obtain ⟨d0, d1, d2, d3, d4⟩ := hy2.z.s.cells; have y7 := hy2.z.cells.2.2.2.2.2.2.2; have t0 := ht2.cell (j := 0) rfl; have t1 := ht2.cell (j := 1) rfl; have t2 := ht2.cell (j := 2) rfl; have ic0 := hy2.cell; have icf := hy2.free; have ibl := hy2.ibl; have q0 := hy2.t.cell (j := 0) rfl; have q1 := hy2.t.cell (j := 1) rfl; have q2 := hy2.t.cell (j := 2) rfl; have HP := Lib.hid (hy2.put ht2); clear ht2 hb2 hy2 c0 c1 c2 c3 c4 x0 x1 x2 x3 x4 x5 x6 x7 a0)))
        refine wp_loop_rounds 4 ?_
        rw [rounds_succ]
        go_wp2_with fail
        rw [rounds_succ]
        go_wp2_with fail
        rw [rounds_succ]
        go_wp2_with fail
        rw [rounds_succ]
        go_wp2_with fail
        rw [rounds_succ]
        go_wp2_with fail
        go_roundg 1
        case measure => omega
        case rel => exact .inr (.inl ⟨rfl, rfl, _, HP.out⟩)
      · skip
        obtain ⟨c0, c1, c2, c3, c4⟩ := hy.z.s.cells
        obtain ⟨x0, x1, x2, x3, x4, x5, x6, x7⟩ := hy.z.cells
        have a0 := hy.a.cell (j := 0) rfl
        have HPT := Lib.hid (point_0 bb ob eb ec ab ib ic wr hy.z.lv0)
        have HY := Lib.hid hy
        clear hy
        unfold lvV at HPT
        go_wp2_with fail
        refine wp_loop_rounds 2 ?_
        rw [rounds_succ]
        go_wp2_with (go_at_call 77; go_loud ((refine HPT.out.mono ?_; rintro e w2 ⟨tb2, rfl, ht2, -, hb2⟩; have hy2 := HY.out.after hb2; obtain ⟨d0, d1, d2, d3, d4⟩ := hy2.z.s.cells; have y7 := hy2.z.cells.2.2.2.2.2.2.2; have t0 := ht2.cell (j := 0) rfl; have t1 := ht2.cell (j := 1) rfl; have t2 := ht2.cell (j := 2) rfl; have ic0 := hy2.cell; have icf := hy2.free; have ibl := hy2.ibl; have q0 := hy2.t.cell (j := 0) rfl; have q1 := hy2.t.cell (j := 1) rfl; have q2 := hy2.t.cell (j := 2) rfl; have HP := Lib.hid (hy2.put ht2); clear ht2 hb2 hy2 c0 c1 c2 c3 c4 x0 x1 x2 x3 x4 x5 x6 x7 a0)))
        refine wp_loop_rounds 4 ?_
        rw [rounds_succ]
        go_wp2_with fail
        rw [rounds_succ]
        go_wp2_with fail
        rw [rounds_succ]
        go_wp2_with fail
        rw [rounds_succ]
        go_wp2_with fail
        rw [rounds_succ]
        go_wp2_with fail
        go_roundg 0
        case measure => omega
        case rel => exact .inr (.inr ⟨rfl, rfl, _, HP.out⟩)
      · obtain ⟨x0, x1, x2, x3, x4, x5, x6, x7⟩ := hy.z.cells
        have r0 := Go.Joins.cell_of_block hy.z.r 0
        have f0 := Go.Joins.unfrozen_of_block hy.z.r 0
        have r1 := Go.Joins.cell_of_block hy.z.r 1
        have f1 := Go.Joins.unfrozen_of_block hy.z.r 1
        have r2 := Go.Joins.cell_of_block hy.z.r 2
        have f2 := Go.Joins.unfrozen_of_block hy.z.r 2
        have r3 := Go.Joins.cell_of_block hy.z.r 3
        have f3 := Go.Joins.unfrozen_of_block hy.z.r 3
        have r4 := Go.Joins.cell_of_block hy.z.r 4
        have f4 := Go.Joins.unfrozen_of_block hy.z.r 4
        have r5 := Go.Joins.cell_of_block hy.z.r 5
        have f5 := Go.Joins.unfrozen_of_block hy.z.r 5
        have r6 := Go.Joins.cell_of_block hy.z.r 6
        have f6 := Go.Joins.unfrozen_of_block hy.z.r 6
        have r7 := Go.Joins.cell_of_block hy.z.r 7
        have f7 := Go.Joins.unfrozen_of_block hy.z.r 7
        rw [HFB.out] at r0 f0 r1 f1 r2 f2 r3 f3 r4 f4 r5 f5 r6 f6 r7 f7
        have HY := Lib.hid hy
        clear hy
        go_wp2_with fail
        try simp only [Exit.inBlock, Exit.then]
        refine bodyPost_ret (v := lvV bb eb ec ab ib ic) (by rw [results_cell1 rfl]; go_simp; rfl) rfl ?_
        obtain ⟨k1, k2, k3, k4, k5, k6⟩ := HY.out.last (v0 := .string ⟨#[102]⟩) (v1 := .int .i64 2) (v2 := .int .i64 3) (v3 := .slice none 0 0) (v4 := .slice (some ⟨bb, 0, none⟩) 1 1) (v5 := .slice (some ⟨eb, 0, none⟩) 1 ec) (v6 := .slice (some ⟨ab, 0, none⟩) 1 1) (v7 := .slice (some ⟨ib, 0, none⟩) 1 ic) _ rfl
        exact ⟨eb, ec, ab, ib, ic, tb, rfl, k1, k2, k3, k4, k5, k6⟩
end Go.Proofs.YthgbmhpfblgjcaaGreatDoor.fl
