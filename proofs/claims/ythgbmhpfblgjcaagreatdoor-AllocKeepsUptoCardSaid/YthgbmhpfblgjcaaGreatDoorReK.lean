/-
  The example of the laws works. Condition: the tables stand.
-/
import Derived.Test.YthgbmhpfblgjcaaGreatDoorReJ
import Derived.Test.YthgbmhpfblgjcaaGreatDoorAlK
import Derived.Test.YthgbmhpfblgjcaaGreatDoorReS
set_option linter.unusedVariables false
set_option linter.unusedSimpArgs false
namespace Go.Proofs.YthgbmhpfblgjcaaGreatDoor.fl
open Go.RowKit Go.Shelf
open M T ty
set_option linter.unusedVariables false
/-- what stands where an operation's registers are taken -/
structure Nx (W : World) (bb ob xb : Nat) (A : Option Addr) (c : Nat) : Prop where
  s : Sm W bb ob
  x : W.heap[xb]? = some (.cells #[.slice (some ⟨ob, 0, none⟩) 1 1, .int .i64 3, .int .i64 2, .int .i64 (-1), .int .i64 0, .int .i64 0] 52 (0, 0))
  l : ∃ B, W.ownsRow B 3 1 (.slice A 1 c) 1 [.int .i64 2]
theorem Nx.after {W W' : World} {bb ob xb c : Nat} {A : Option Addr} (h : Nx W bb ob xb A c) (hb : Below W.heap.size W W') : Nx W' bb ob xb A c :=
  ⟨h.s.after hb, (hb.block xb (Array.getElem?_eq_some_iff.1 h.x).1).trans h.x, by obtain ⟨B, ho⟩ := h.l; exact ⟨B, own_below_size ho hb⟩⟩
theorem Nx.rd {W : World} {bb ob xb c : Nat} {A : Option Addr} (h : Nx W bb ob xb A c) : Rd W W.heap.size A [.int .i64 2] := by
  obtain ⟨B, ho⟩ := h.l
  exact Rd.of_own ho
theorem rd_keep {W w6 : World} {B z : Nat} {A : Option Addr} {c n : Nat} {xs : List Value} (h : W.ownsRow B 3 1 (.slice A n c) n xs) (hg : W.grownBy w6 (some z)) (hz : ∀ g, (Value.slice A n c).ownBlock = some g → g ≠ z) : Rd w6 w6.heap.size A xs :=
  Rd.of_own (own_same h fun g e => hg.block g (h.lt g e).2 (fun e2 => hz g e (Option.some.inj e2)))
set_option maxRecDepth 20000 in
set_option maxHeartbeats 8000000 in
theorem needs_43 (W : World) (bb ob : Nat) (h : Sm W bb ob) : Calls Tryz.prog 43 #[smV bb] W fun e w' => ∃ A n c, e = .returned (.slice A n c) ∧ Below W.heap.size W w' := by
  have HB := Lib.hid ((Below.refl W.heap.size W).alloc (Nat.le_refl _) (.cells #[.string ⟨#[102]⟩, .int .i64 2, .int .i64 3, .slice none 0 0, .slice (some ⟨bb, 0, none⟩) 1 1] 25))
  have H0 := Lib.hid h.boxed
  have HRE := Lib.hid (fun W (hW : Sm W bb ob) => Reached_72 bb ob W hW)
  clear h
  unfold smV at HRE ⊢
  go_enter Tryz.func43, Tryz.ntmps43
  have hmk := mk84_3
  go_wp2_with (go_at_call 72; go_loud ((refine (HRE.out _ H0.out.sm).mono ?_; rintro e w1 ⟨ab, rfl, hab, -, hb1⟩; have h1 := H0.out.after hb1; obtain ⟨c0, c1, c2, c3, c4⟩ := h1.cells; have H1 := Lib.hid h1; have HAB := Lib.hid hab; have HB1 := Lib.hid (HB.out.trans (hb1.mono HB.out.size)); clear h1 hab hb1)))
  have hal := (Below.refl w1.heap.size w1).alloc (Nat.le_refl _) (.cells #[.bool false, .bool false, .bool false] 4)
  have H2 := Lib.hid (H1.out.after hal)
  have HA2 := Lib.hid (HAB.out.below hal HAB.out.lt)
  have HZ2 : Hid (BoolsAt (w1.alloc (.cells #[.bool false, .bool false, .bool false] 4)) w1.heap.size [false, false, false]) := Lib.hid (heap_alloc_new w1 _)
  have HB2 := Lib.hid (HB1.out.trans (hal.mono HB1.out.size))
  have hzl : W.heap.size < w1.heap.size := H1.out.fl
  clear hal c0 c1 c2 c3 c4 H1 HAB HB1 H0 HRE HB
  generalize w1.alloc (.cells #[.bool false, .bool false, .bool false] 4) = W2 at *
  generalize w1.heap.size = zb at *
  obtain ⟨c0, c1, c2, c3, c4⟩ := H2.out.cells
  obtain ⟨b0, b1, b2, b3, b4, b5⟩ := H2.out.sm.bcells
  have a0 := HA2.out.cell (j := 0) rfl
  have HEX := Lib.hid (fun W => Exits_any W)
  unfold exV9 at HEX
  refine wp_loop_rounds 2 ?_
  rw [rounds_succ]
  go_wp2_with (go_at_call 73; go_loud ((refine (HEX.out _).mono ?_; rintro e w3 ⟨v3, rfl, ⟨A3, m3, rfl, ho3⟩, hb3⟩; have HO3 := Lib.hid ho3; have HB3 := Lib.hid hb3; clear ho3 hb3)))
  have hal := (Below.refl W2.heap.size W2).alloc (Nat.le_refl _) (.cells #[.slice (some ⟨ob, 0, none⟩) 1 1, .int .i64 3, .int .i64 2, .int .i64 (-1), .int .i64 0, .int .i64 0] 52)
  have hb2 := hal.trans (HB3.out.mono hal.size)
  have HX3 : Hid (w3.heap[W2.heap.size]? = some (.cells #[.slice (some ⟨ob, 0, none⟩) 1 1, .int .i64 3, .int .i64 2, .int .i64 (-1), .int .i64 0, .int .i64 0] 52 (0, 0))) := Lib.hid ((HB3.out.block _ (by simp)).trans (heap_alloc_new W2 _))
  have H3 := Lib.hid (H2.out.after hb2)
  have HN3 : Hid (Nx w3 bb ob W2.heap.size A3 m3) := Lib.hid ⟨(H2.out.after hb2).sm, HX3.out, _, HO3.out⟩
  have HZ3 := Lib.hid (HZ2.out.below hb2 HZ2.out.lt)
  have HBB := Lib.hid (HB2.out.trans (hb2.mono HB2.out.size))
  have hz3 : zb < w3.heap.size := Nat.lt_of_lt_of_le HZ2.out.lt hb2.size
  clear hal hb2 c0 c1 c2 c3 c4 b0 b1 b2 b3 b4 b5 a0 HX3 HO3 HB3 H2 HA2 HZ2 HB2 HEX
  generalize W2.heap.size = xb at *
  have x0 := Go.Joins.cell_of_block HN3.out.x 0
  refine wp_loop_rounds 2 ?_
  rw [rounds_succ]
  go_upto_region 12 with fail
  obtain ⟨i1, hj, hy0, hy1, hy2⟩ := info_parts info3
  obtain ⟨o0, o1, o2, o3, o4, o5, o6⟩ := HN3.out.s.ocells
  have xl := (Array.getElem?_eq_some_iff.1 HN3.out.x).1
  have ol := HN3.out.s.ol
  have hx1 : 0 + 1 ≤ maxLen := by simp [maxLen]
  have hx2 : (0 + 1) * 8 ≤ 140737488355328 := by omega
  have hx3 : 1 + 2 ≤ maxLen := by simp [maxLen]
  have hx4 : (1 + 2) * 8 ≤ 140737488355328 := by omega
  have HAL := Lib.hid (((Below.refl w3.heap.size w3).drew).alloc (Nat.le_refl w3.heap.size) (.cells #[] 3))
  have HON : Hid (∀ u ∈ [Value.int .i64 2], u.oneCell' = true) := Lib.hid (fun u hu => by have : u = .int .i64 2 := (by simpa using hu); rw [this]; rfl)
  have HOM : Hid (∀ u ∈ ints [0, 1], u.oneCell' = true) := Lib.hid (by decide)
  have HZO : Hid ((w3.drew.alloc (.cells #[] 3)).ownsRow w3.heap.size 3 1 (.slice (some ⟨w3.heap.size, 0, none⟩) 0 0) 0 []) := Lib.hid (own_zero w3.drew w3.heap.size (Nat.le_refl _) 3)
  have HRZ : Hid (Rd (w3.drew.alloc (.cells #[] 3)) (w3.drew.alloc (.cells #[] 3)).heap.size A3 [.int .i64 2]) := Lib.hid (HN3.out.after HAL.out).rd
  have HRD := Lib.hid Reads_74
  unfold opV9 at HRD
  have h81 : (8 : Nat) = 8 := rfl
  go_cut [8] (fun s8 wc => ∃ A c, s8 = .slice A 3 c ∧ wc.ownsRow w3.heap.size 3 1 (.slice A 3 c) 3 (ints [2, 0, 1]) ∧ Below w3.heap.size w3 wc)
  case first =>
    go_region_law (first
      | (refine step_append_rd _ rfl (.tmp 52) (.tmp 58) 27 rfl w3.heap.size 3 i1 _ 1 8 Tryz.underlying27 hj hy0 hy1 hy2 rfl (by omega) (.slice A6 1 c6) 1 [.int .i64 2] (by simp [Act.eval, Act.put]) (by exact HO7.out) _ A7 2 c7 (ints [0, 1]) (by simp [Act.eval, Act.put]) rfl (by exact HR7.out) (by exact HOM.out) hx3 hx4 (by exact HB7.out.size) ?_; intro v9 w9 ho9 hg9 hv9; obtain ⟨A9, c9, rfl, -, -⟩ := own_form ho9; have HO9 := Lib.hid ho9; have HB9 := Lib.hid (HB7.out.grown hg9 HB7.out.size (fun g e => (HO7.out.lt g e).1)); clear ho9 hg9 hv9)
      | (refine step_append_rd _ rfl (.tmp 50) (.tmp 51) 27 rfl w3.heap.size 3 i1 _ 1 8 Tryz.underlying27 hj hy0 hy1 hy2 rfl (by omega) (.slice (some ⟨w3.heap.size, 0, none⟩) 0 0) 0 [] (by simp [Act.eval, Act.put]) (by exact HZO.out) _ A3 1 m3 [.int .i64 2] (by simp [Act.eval, Act.put]) rfl (by exact HRZ.out) (by exact HON.out) hx1 hx2 (by simp) ?_; intro v6 w6 ho6 hg6 hv6; obtain ⟨A6, c6, hv9, -, -⟩ := own_form ho6; change v6 = .slice A6 1 c6 at hv9; subst hv9; have HO6 : Hid (w6.ownsRow w3.heap.size 3 1 (.slice A6 1 c6) 1 [.int .i64 2]) := Lib.hid ho6; have HB6 := Lib.hid (HAL.out.grown hg6 HAL.out.size (fun g e => (HZO.out.lt g e).1)); have hn6 := HN3.out.after HB6.out; have k0 := Go.Joins.cell_of_block hn6.x 0; obtain ⟨k1, k2, k3, k4, k5, k6, k7⟩ := hn6.s.ocells; clear ho6 hg6 hv6 hn6)
      | (go_simp; go_at_call 74; go_loud (refine (HRD.out w6).mono ?_; rintro e w7 ⟨v7, rfl, ⟨A7, c7, e7, ho7⟩, hb7⟩; change v7 = .slice A7 2 c7 at e7; subst e7; have HO7 := Lib.hid (own_below_size HO6.out hb7); have HR7 : Hid (Rd w7 w7.heap.size A7 (ints [0, 1])) := Lib.hid (Rd.of_own ho7); have HB7 := Lib.hid (HB6.out.trans (hb7.mono HB6.out.size)); clear ho7 hb7)))
    all_goals
      go_wp2_with fail
      go_meet
      case rel => exact ⟨_, _, rfl, HO9.out, HB9.out⟩
  case rest =>
    obtain ⟨A9, c9, rfl, ho9, hb9⟩ := hcut
    have hn9 := HN3.out.after hb9
    have HO9 := Lib.hid ho9
    have HB9 := Lib.hid hb9
    have HN9 := Lib.hid hn9
    clear o0 o1 o2 o3 o4 o5 o6 x0 xl ol ho9 hb9 hn9 HZO HRZ HRD HAL
    have x0 := Go.Joins.cell_of_block HN9.out.x 0
    have x1 := Go.Joins.cell_of_block HN9.out.x 1
    obtain ⟨o0, o1, o2, o3, o4, o5, o6⟩ := HN9.out.s.ocells
    have xl := (Array.getElem?_eq_some_iff.1 HN9.out.x).1
    have ol := HN9.out.s.ol
    go_wp2_with (at_builtin; go_loud (refine wpList_app_one (w := wc.alloc (.cells #[.int .i64 2] 3)) rfl (.tmp 67) (.tmp 74) rfl (v := .slice A9 3 c9) (l := [2, 0, 1]) (r := (2 : Int)) rfl (HO9.out.alloc _) rfl (heap_alloc_new wc _) (by simp) (by have := HB9.out.size; simp; omega) ?_); intro v10 w10 ho10 hg10; obtain ⟨A10, c10, hv10, -, -⟩ := own_form ho10; change v10 = .slice A10 4 c10 at hv10; subst hv10; have hb10 : Below w3.heap.size w3 w10 := (HB9.out.alloc HB9.out.size _).grown hg10 (by have := HB9.out.size; simp; omega) (fun g e => (HO9.out.lt g e).1); have hn10 := HN3.out.after hb10; have hx0 := Go.Joins.cell_of_block hn10.x 0; have hx1 := Go.Joins.cell_of_block hn10.x 1; have HO10 := Lib.hid ho10; have HB10 := Lib.hid hb10; clear ho10 hg10 hb10 hn10)
    clear x0 x1 o0 o1 o2 o3 o4 o5 o6 xl ol HO9 HB9 HN9
    rw [rounds_succ]
    go_wp2_with fail
    have ho10 := HO10.out
    obtain ⟨y, rfl, y1, y2, y3⟩ := own_at ho10 (by simp)
    have p0 := y3 0 _ rfl
    have p1 := y3 1 _ rfl
    have p2 := y3 2 _ rfl
    have p3 := y3 3 _ rfl
    have hz10 := HZ3.out.below HB10.out hz3
    have q0 := hz10.cell (j := 0) rfl
    have q1 := hz10.cell (j := 1) rfl
    have q2 := hz10.cell (j := 2) rfl
    have f0 := hz10.unfrozen 0
    have f1 := hz10.unfrozen 1
    have f2 := hz10.unfrozen 2
    have hyz : y ≠ zb := by omega
    have hfz : W.heap.size ≠ zb := by omega
    obtain ⟨c0, c1, c2, c3, c4⟩ := (H3.out.after HB10.out).cells
    clear ho10 y3 hz10
    refine wp_loop_rounds 5 ?_
    rw [rounds_succ]
    go_wp2_with fail
    rw [rounds_succ]
    go_wp2_with fail
    rw [rounds_succ]
    go_wp2_with fail
    rw [rounds_succ]
    go_wp2_with fail
    rw [rounds_succ]
    go_wp2_with fail
    rw [rounds_succ]
    go_wp2_with fail
    go_ret
    have hb := HBB.out.trans (HB10.out.mono HBB.out.size)
    refine ⟨_, _, _, rfl, ?_⟩
    exact (((hb.setCell (p := ⟨zb, 2, none⟩) (Nat.le_of_lt hzl) _).setCell (p := ⟨zb, 0, none⟩) (Nat.le_of_lt hzl) _).setCell (p := ⟨zb, 1, none⟩) (Nat.le_of_lt hzl) _).setCell (p := ⟨zb, 2, none⟩) (Nat.le_of_lt hzl) _
end Go.Proofs.YthgbmhpfblgjcaaGreatDoor.fl
namespace Go.Proofs.YthgbmhpfblgjcaaGreatDoor.fl
open Go.RowKit Go.Shelf
open M T ty
set_option linter.unusedVariables false
def smL (bb ob : Nat) : FLay := ⟨none, 0, some ⟨bb, 0, none⟩, 1, fun _ => some ⟨ob, 0, none⟩, fun _ => 1, fun _ _ => none, fun _ _ => 0⟩
theorem sm_val (bb ob : Nat) : fnV smF (smL bb ob) = smV bb := rfl
theorem sm_ok : fnB 4611686018427387904 smF = true := by kernel_rfl
theorem sm_fits : Fits smF := by
  refine ⟨by show 1 ≤ 1048576; omega, fun x hx => ?_⟩
  have : x = smBl := by simpa [smF] using hx
  subst this
  refine ⟨by show 1 ≤ 1048576; omega, fun o ho => ?_⟩
  have : o = smOp := by simpa [smBl] using ho
  subst this
  exact ⟨by show 0 ≤ 1048576; omega, by show 0 ≤ 1048576; omega⟩
theorem Sm.stands {W : World} {bb ob : Nat} (h : Sm W bb ob) (ht : Tabs W) : Stands W smF (smL bb ob) 3 := by
  refine ⟨⟨fun h0 => by simp [smF] at h0, ⟨fun _ => ⟨⟨bb, 0, none⟩, rfl, h.bl, fun j x hx r v hv => ?_⟩, fun j x hx => ?_⟩⟩, ht, sm_fits, sm_ok, rfl⟩
  · have hj : j = 0 := by
      have := (List.getElem?_eq_some_iff.1 hx).1
      simp [smF] at this
      exact this
    subst hj
    have : smBl = x := by simpa [smF] using hx
    subst this
    have hr : r < 6 := by simpa [blCells] using (List.getElem?_eq_some_iff.1 hv).1
    rw [add_none, show 0 * 6 + r = r by omega, Go.Joins.cell_of_block h.b r, ← hv]
    match r, hr with
    | 0, _ => rfl
    | 1, _ => rfl
    | 2, _ => rfl
    | 3, _ => rfl
    | 4, _ => rfl
    | 5, _ => rfl
  · have hj : j = 0 := by
      have := (List.getElem?_eq_some_iff.1 hx).1
      simp [smF] at this
      exact this
    subst hj
    have : smBl = x := by simpa [smF] using hx
    subst this
    refine ⟨fun _ => ⟨⟨ob, 0, none⟩, rfl, h.ol, fun i o ho r v hv => ?_⟩, fun i o ho => ?_⟩
    · have hi : i = 0 := by
        have := (List.getElem?_eq_some_iff.1 ho).1
        simp [smBl] at this
        exact this
      subst hi
      have : smOp = o := by simpa [smBl] using ho
      subst this
      have hr : r < 7 := by simpa [opCells] using (List.getElem?_eq_some_iff.1 hv).1
      rw [add_none, show 0 * 7 + r = r by omega, Go.Joins.cell_of_block h.o r, ← hv]
      match r, hr with
      | 0, _ => rfl
      | 1, _ => rfl
      | 2, _ => rfl
      | 3, _ => rfl
      | 4, _ => rfl
      | 5, _ => rfl
      | 6, _ => rfl
    · have hi : i = 0 := by
        have := (List.getElem?_eq_some_iff.1 ho).1
        simp [smBl] at this
        exact this
      subst hi
      have : smOp = o := by simpa [smBl] using ho
      subst this
      exact Rd.nil
theorem sm_found : Found (tos smF.bl) (-1) 0 [true] := by
  refine ⟨rfl, fun b hb => ?_⟩
  have hb0 : b = 0 := by
    have : b < 1 := hb
    omega
  subst hb0
  exact ⟨fun _ => Way.here (by decide), fun _ => rfl⟩
theorem sm_lives : Lives (tos smF.bl) smF.bl [true] [3] := ⟨1, by kernel_rfl, by kernel_rfl⟩
theorem sm_anl : anl smF [true] [3] 3 1 = [] := by
  simp [anl, twAt, smF, smBl, smEx]
theorem sm_asg : asg (clK smF [true] [3]) (wdL smF [true] [3] 3 []) (nots 3 (needs smF.bl [true] [3] 1)) (marks 3 (acL smF [true] [3] [])) 3 3 = ([0, 1, 0], 0) := by kernel_rfl
theorem sm_asgK : asgK smF [true] [3] 3 3 = ([0, 1, 0], 0) := by
  unfold asgK
  rw [show smF.bl.length = 1 from rfl, sm_anl]
  exact sm_asg
theorem sm_cl : (1 : Int) ∈ clK smF [true] [3] 0 := by
  have : clK smF [true] [3] 0 = [1] := by kernel_rfl
  rw [this]
  exact List.mem_singleton.2 rfl
theorem Assign_sm (bb ob : Nat) (W : World) (h : Sm W bb ob) (ht : Tabs W) : Calls Tryz.prog 7 #[smV bb] W fun e w' => ∃ A c, e = .returned (.tuple #[.agg #[.slice A 3 c, .int .i64 0], .int .i64 0]) ∧ RdP w' (fun k => W.heap.size ≤ k ∧ k < w'.heap.size) A (ints [0, 1, 0]) ∧ Below W.heap.size W w' := by
  have h1 := Assign_7 smF (smL bb ob) 3 W (h.stands ht)
  rw [sm_val] at h1
  refine h1.mono ?_
  rintro e w' ⟨rc, s, A, c, rfl, hr, hfo, hli, -, hb⟩
  obtain rfl := sm_found.unique hfo
  obtain rfl := sm_lives.unique hli
  rw [sm_asgK] at hr
  exact ⟨A, c, by rw [sm_asgK]; rfl, hr, hb⟩
theorem Check_sm (bb ob gb : Nat) (ps : List Int) (n : Int) (W : World) (h : Sm W bb ob) (ht : Tabs W) (hp : W.heap[gb]? = some (.cells (ints ps).toArray 3 (0, 0))) (hl : ps.length = 3) (hn : n = 0 ∧ ps = [0, 1, 0] ∨ n = 5 ∧ ps = [0, 0, 0]) :
    Calls Tryz.prog 16 #[smV bb, .agg #[.slice (some ⟨gb, 0, none⟩) 3 3, .int .i64 0]] W fun e w' => e = .returned (.int .i64 n) ∧ Below W.heap.size W w' := by
  have hrd : Rd W W.heap.size (some ⟨gb, 0, none⟩) (ints ps) := fun _ => ⟨⟨gb, 0, none⟩, rfl, (Array.getElem?_eq_some_iff.1 hp).1, fun j u hu => by
    rw [add_none, Go.Joins.cell_of_block hp j, ← hu]
    simp⟩
  have h1 := Check_16 smF (smL bb ob) 3 W (h.stands ht) ps 0 (pc := 3) hrd (by omega) (by omega) (by omega)
  rw [sm_val, hl] at h1
  refine h1.mono ?_
  rintro e w' ⟨rc, s, m, rfl, hfo, hli, hct, hm, hm2, hb⟩
  obtain rfl := sm_found.unique hfo
  obtain rfl := sm_lives.unique hli
  refine ⟨?_, hb⟩
  rcases hn with ⟨rfl, rfl⟩ | ⟨rfl, rfl⟩
  · have h2 := asgK_right (r := 3) (by omega) hct
    have h3 := asgK_shape (r := 3) (by omega) hct
    rw [sm_asgK] at h2 h3
    rw [hm2.2 ⟨h3, h2⟩]
  · rcases hm with hm | hm
    · exfalso
      have h2 := (hm2.1 hm).2 0 (by omega)
      have h3 := (h2.2 (by decide)).2.1 1 sm_cl
      exact h3 rfl
    · rw [hm]
end Go.Proofs.YthgbmhpfblgjcaaGreatDoor.fl
namespace Go.Proofs.YthgbmhpfblgjcaaGreatDoor.fl
open Go.RowKit Go.Shelf
open M T ty
set_option linter.unusedVariables false
theorem ints3 (a b c : Int) : (ints [a, b, c]).toArray = #[.int .i64 a, .int .i64 b, .int .i64 c] := rfl
set_option maxRecDepth 20000 in
set_option maxHeartbeats 8000000 in
theorem works_any (hneeds : ∀ W bb ob, Sm W bb ob → Calls Tryz.prog 43 #[smV bb] W fun e w' => ∃ A n c, e = .returned (.slice A n c) ∧ Below W.heap.size W w') (w : World) (ht : Tabs w) :
    Calls Tryz.prog 6 #[] w fun e w' => e = .returned (.bool true) ∧ Below w.heap.size w w' := by
  have HT := Lib.hid (fun W (hW : Below w.heap.size w W) => ht.after hW)
  have HS := Lib.hid (fun W => small_19 W)
  have HAS := Lib.hid (fun bb ob W (h : Sm W bb ob) (hb : Below w.heap.size w W) => Assign_sm bb ob W h (ht.after hb))
  have HC0 := Lib.hid (fun bb ob gb W (h : Sm W bb ob) (hb : Below w.heap.size w W) (hp : W.heap[gb]? = some (.cells #[.int .i64 0, .int .i64 1, .int .i64 0] 3 (0, 0))) => Check_sm bb ob gb [0, 1, 0] 0 W h (ht.after hb) hp rfl (.inl ⟨rfl, rfl⟩))
  have HC5 := Lib.hid (fun bb ob gb W (h : Sm W bb ob) (hb : Below w.heap.size w W) (hp : W.heap[gb]? = some (.cells #[.int .i64 0, .int .i64 0, .int .i64 0] 3 (0, 0))) => Check_sm bb ob gb [0, 0, 0] 5 W h (ht.after hb) hp rfl (.inr ⟨rfl, rfl⟩))
  have HRC := Lib.hid (fun bb ob pc (ad : Addr) W (h : Sm W bb ob) (h0 : W.cell? ad = some (.int .i64 0)) (h1 : W.cell? (ad.add 1) = some (.int .i64 1)) (h2 : W.cell? (ad.add 2) = some (.int .i64 0)) (hp : ad.block < W.heap.size) => Check_20 hneeds bb ob pc ad _ _ W h rfl rfl h0 h1 h2 ⟨hp, by rw [M.block_add]; exact hp, by rw [M.block_add]; exact hp⟩)
  clear ht hneeds
  unfold smV at HS HAS HC0 HC5 HRC
  go_enter Tryz.func6, Tryz.ntmps6
  go_upto_region 2 with (first
    | (go_at_call 7; go_loud ((refine (HAS.out _ _ _ S1.out B1.out).mono ?_; rintro e w2 ⟨A, c, rfl, hr, hb2⟩; have HR2 := Lib.hid hr; have hb3 := B1.out.trans (hb2.mono B1.out.size); have B2 := Lib.hid (hb3.alloc hb3.size (.cells #[.slice A 3 c, .int .i64 0] 29)); clear hr hb2 hb3)))
    | (go_at_call 19; go_loud ((refine (HS.out _).mono ?_; rintro e w1 ⟨bb, ob, rfl, hs, hb⟩; have S1 := Lib.hid hs; have B1 := Lib.hid hb; clear hs hb))))
  have HX2 : Hid ((w2.alloc (.cells #[.slice A 3 c, .int .i64 0] 29)).heap[w2.heap.size]? = some (.cells #[.slice A 3 c, .int .i64 0] 29 (0, 0))) := Lib.hid (heap_alloc_new w2 _)
  have HR3 : Hid (∃ ad, A = some ad ∧ ad.block < (w2.alloc (.cells #[.slice A 3 c, .int .i64 0] 29)).heap.size ∧ (w2.alloc (.cells #[.slice A 3 c, .int .i64 0] 29)).cell? ad = some (.int .i64 0) ∧ (w2.alloc (.cells #[.slice A 3 c, .int .i64 0] 29)).cell? (ad.add 1) = some (.int .i64 1) ∧ (w2.alloc (.cells #[.slice A 3 c, .int .i64 0] 29)).cell? (ad.add 2) = some (.int .i64 0)) := Lib.hid (by
    obtain ⟨ad, e, hP, hc⟩ := HR2.out (by simp [ints])
    have hal := (Below.refl w2.heap.size w2).alloc (Nat.le_refl _) (.cells #[.slice A 3 c, .int .i64 0] 29)
    refine ⟨ad, e, Nat.lt_of_lt_of_le hP.2 hal.size, (hal.cell hP.2).trans (hc 0 _ rfl), (hal.cell (by rw [M.block_add]; exact hP.2)).trans (hc 1 _ rfl), (hal.cell (by rw [M.block_add]; exact hP.2)).trans (hc 2 _ rfl)⟩)
  clear HR2 HAS S1 B1
  generalize w2.alloc (.cells #[.slice A 3 c, .int .i64 0] 29) = W3 at *
  generalize w2.heap.size = xb at *
  obtain ⟨ad, rfl, hal, ha0, ha1, ha2⟩ := HR3.out
  clear HR3
  have HXA := Lib.hid (fun W (hW : Below W3.heap.size W3 W) => (⟨(hW.cell (p := ⟨xb, 0, none⟩) (Array.getElem?_eq_some_iff.1 HX2.out).1).trans (Go.Joins.cell_of_block HX2.out 0), (hW.cell (p := ⟨xb, 1, none⟩) (Array.getElem?_eq_some_iff.1 HX2.out).1).trans (Go.Joins.cell_of_block HX2.out 1)⟩ : W.cell? ⟨xb, 0, none⟩ = some (.slice (some ad) 3 c) ∧ W.cell? ⟨xb, 1, none⟩ = some (.int .i64 0)))
  have HAD := Lib.hid (fun W (hW : Below W3.heap.size W3 W) => (⟨(hW.cell hal).trans ha0, (hW.cell (by rw [M.block_add]; exact hal)).trans ha1, (hW.cell (by rw [M.block_add]; exact hal)).trans ha2, Nat.lt_of_lt_of_le hal hW.size⟩ : W.cell? ad = some (.int .i64 0) ∧ W.cell? (ad.add 1) = some (.int .i64 1) ∧ W.cell? (ad.add 2) = some (.int .i64 0) ∧ ad.block < W.heap.size))
  have HBW := Lib.hid (fun W (hW : Below W3.heap.size W3 W) => B2.out.trans (hW.mono B2.out.size))
  clear ha0 ha1 ha2 hal
  go_region_with (first
    | (go_at_call 20; with_reducible (refine (HRC.out b3 o3 c ad s3 S3.out (HAD.out s3 K3.out).1 (HAD.out s3 K3.out).2.1 (HAD.out s3 K3.out).2.2.1 (HAD.out s3 K3.out).2.2.2).mono ?_); rintro e q3 ⟨rfl, hb⟩; have Q3 : Hid (Below W3.heap.size W3 q3) := Lib.hid (K3.out.trans (hb.mono K3.out.size)); clear hb)
    | (go_at_call 19; (have hnow := Q2.out); refine (HS.out _).mono ?_; rintro e s3 ⟨b3, o3, rfl, hs, hb⟩; have S3 := Lib.hid hs; have K3 : Hid (Below W3.heap.size W3 s3) := Lib.hid (Q2.out.trans (hb.mono Q2.out.size)); obtain ⟨z0, z1⟩ := HXA.out s3 K3.out; clear hs hb hnow)
    | (go_at_call 16; with_reducible (refine (HC5.out b2 o2 s2.heap.size (s2.alloc (.cells #[.int .i64 0, .int .i64 0, .int .i64 0] 3)) (S2.out.alloc _) (HBW.out _ (K2.out.alloc K2.out.size _)) (heap_alloc_new s2 _)).mono ?_); rintro e q2 ⟨rfl, hb⟩; have Q2 : Hid (Below W3.heap.size W3 q2) := Lib.hid ((K2.out.alloc K2.out.size (.cells #[.int .i64 0, .int .i64 0, .int .i64 0] 3)).trans (hb.mono (K2.out.alloc K2.out.size (.cells #[.int .i64 0, .int .i64 0, .int .i64 0] 3)).size)); obtain ⟨y0, y1⟩ := HXA.out q2 Q2.out; clear hb)
    | (go_at_call 16; with_reducible (refine (HC5.out b2 o2 q1.heap.size s2 S2.out (HBW.out _ K2.out) G2.out).mono ?_); rintro e q2 ⟨rfl, hb⟩; have Q2 : Hid (Below W3.heap.size W3 q2) := Lib.hid (K2.out.trans (hb.mono K2.out.size)); obtain ⟨y0, y1⟩ := HXA.out q2 Q2.out; clear hb)
    | (go_at_call 19; (have hnow := Q1.out); refine (HS.out _).mono ?_; rintro e s2 ⟨b2, o2, rfl, hs, hb⟩; have S2 := Lib.hid hs; have K2 : Hid (Below W3.heap.size W3 s2) := Lib.hid (by first | exact Q1.out.trans (hb.mono Q1.out.size) | exact (Q1.out.alloc Q1.out.size (.cells #[.int .i64 0, .int .i64 0, .int .i64 0] 3)).trans (hb.mono (Q1.out.alloc Q1.out.size (.cells #[.int .i64 0, .int .i64 0, .int .i64 0] 3)).size)); (try (have G2 : Hid (s2.heap[q1.heap.size]? = some (.cells #[.int .i64 0, .int .i64 0, .int .i64 0] 3 (0, 0))) := Lib.hid ((hb.block _ (by simp)).trans (heap_alloc_new q1 (.cells #[.int .i64 0, .int .i64 0, .int .i64 0] 3))))); clear hs hb hnow)
    | (go_at_call 16; with_reducible (refine (HC0.out b1 o1 s1.heap.size (s1.alloc (.cells #[.int .i64 0, .int .i64 1, .int .i64 0] 3)) (S1.out.alloc _) (HBW.out _ (K1.out.alloc K1.out.size _)) (heap_alloc_new s1 _)).mono ?_); rintro e q1 ⟨rfl, hb⟩; have Q1 : Hid (Below W3.heap.size W3 q1) := Lib.hid ((K1.out.alloc K1.out.size (.cells #[.int .i64 0, .int .i64 1, .int .i64 0] 3)).trans (hb.mono (K1.out.alloc K1.out.size (.cells #[.int .i64 0, .int .i64 1, .int .i64 0] 3)).size)); clear hb)
    | (go_at_call 16; with_reducible (refine (HC0.out b1 o1 W3.heap.size s1 S1.out (HBW.out _ K1.out) G1.out).mono ?_); rintro e q1 ⟨rfl, hb⟩; have Q1 : Hid (Below W3.heap.size W3 q1) := Lib.hid (K1.out.trans (hb.mono K1.out.size)); clear hb)
    | (go_at_call 19; refine (HS.out _).mono ?_; rintro e s1 ⟨b1, o1, rfl, hs, hb⟩; have S1 := Lib.hid hs; have K1 : Hid (Below W3.heap.size W3 s1) := Lib.hid (by first | exact ((Below.refl W3.heap.size W3).drew).trans hb | exact (((Below.refl W3.heap.size W3).alloc (Nat.le_refl _) (.cells #[.int .i64 0, .int .i64 1, .int .i64 0] 3)).drew).trans (hb.mono (by simp))); (try (have G1 : Hid (s1.heap[W3.heap.size]? = some (.cells #[.int .i64 0, .int .i64 1, .int .i64 0] 3 (0, 0))) := Lib.hid ((hb.block _ (by simp)).trans (heap_alloc_new W3 (.cells #[.int .i64 0, .int .i64 1, .int .i64 0] 3))))); clear hs hb))
  all_goals
    go_wp2_with fail
    go_ret
    exact ⟨rfl, HBW.out _ Q3.out⟩
end Go.Proofs.YthgbmhpfblgjcaaGreatDoor.fl
namespace Go.Proofs.YthgbmhpfblgjcaaGreatDoor.fl
open Go.RowKit Go.Shelf
open M T ty
set_option linter.unusedVariables false
theorem works_6 (w : World) (ht : Tabs w) : Calls Tryz.prog 6 #[] w fun e w' => e = .returned (.bool true) ∧ Below w.heap.size w w' := works_any needs_43 w ht
end Go.Proofs.YthgbmhpfblgjcaaGreatDoor.fl
