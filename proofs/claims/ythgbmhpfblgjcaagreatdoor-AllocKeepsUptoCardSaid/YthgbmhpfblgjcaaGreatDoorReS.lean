/-
  Of the reference at the one sample: Check. Condition: the sample and the places stand.
-/
import Derived.Test.YthgbmhpfblgjcaaGreatDoorReO
import Derived.BigQuiet
set_option linter.unusedVariables false
set_option linter.unusedSimpArgs false
namespace Go.Proofs.YthgbmhpfblgjcaaGreatDoor.fl
open Go.RowKit Go.Shelf
open M T ty
set_option linter.unusedVariables false
def RdI (W : World) (A : Option Addr) (x : Int) : Prop := ∃ a cs, A = some ⟨a, 0, none⟩ ∧ W.heap[a]? = some (.cells cs 3 (0, 0)) ∧ cs[0]? = some (.int .i64 x)
/-- the three lists of clashes stand at g -/
structure Ck (W : World) (g : Nat) : Prop where
  r : ∃ cs A0 c0 A1 c1 A2 c2, W.heap[g]? = some (.cells cs 27 (0, 0)) ∧ cs[0]? = some (.slice A0 1 c0) ∧ cs[1]? = some (.slice A1 1 c1) ∧ cs[2]? = some (.slice A2 0 c2) ∧ RdI W A0 1 ∧ RdI W A1 0
theorem rdI_of {W : World} {B n c : Nat} {A : Option Addr} {x : Int} (h : W.ownsRow B 3 1 (.slice A n c) n [.int .i64 x]) (hn : n = 1) : RdI W A x := by
  rcases h.2 with ⟨e, hz⟩ | ⟨g, cap, cur, e, hb, hh, -⟩
  · omega
  · injection e with e1 e2 e3
    subst e1
    obtain ⟨y, e, y1, y2, y3⟩ := own_at h (by omega)
    injection e with e1
    injection e1 with e1
    subst e1
    have q0 := y3 0 _ rfl
    rw [Go.Joins.cell_of_block hh] at q0
    exact ⟨g, cur, rfl, hh, q0⟩
theorem RdI.keep {W W' : World} {A : Option Addr} {x : Int} (h : RdI W A x) (hk : ∀ (a : Nat) (cs : Array Value), W.heap[a]? = some (Obj.cells cs 3 (0, 0)) → W'.heap[a]? = W.heap[a]?) : RdI W' A x := by
  obtain ⟨a, cs, rfl, h1, h2⟩ := h
  exact ⟨a, cs, rfl, (hk a cs h1).trans h1, h2⟩
theorem RdI.after {W W' : World} {A : Option Addr} {x : Int} (h : RdI W A x) (hb : Below W.heap.size W W') : RdI W' A x := h.keep fun a cs ha => hb.block a (Array.getElem?_eq_some_iff.1 ha).1
theorem RdI.app {W w6 : World} {A : Option Addr} {x : Int} {v u : Value} {B n : Nat} {xs : List Value} (h : RdI W A x) (ho : W.ownsRow B 27 1 v n xs) (hg : (W.alloc (.cells #[u] 27)).grownBy w6 v.ownBlock) : RdI w6 A x := by
  refine h.keep fun a cs ha => ?_
  have hl := (Array.getElem?_eq_some_iff.1 ha).1
  exact (hg.block a (by simp; omega) (fun e => off_type (by decide) ha ho e.symm)).trans (heap_alloc_lt _ _ hl)
/-- the row of lists under way -/
structure EnvRo (w7 W : World) (v : Value) (l : List Value) : Prop where
  own : W.ownsRow w7.heap.size 27 1 v l.length l
  b : Below w7.heap.size w7 W
theorem EnvRo.app {w7 W w6 : World} {v v' u : Value} {l : List Value} (h : EnvRo w7 W v l) (ho : w6.ownsRow w7.heap.size 27 1 v' (l ++ [u]).length (l ++ [u])) (hg : (W.alloc (.cells #[u] 27)).grownBy w6 v.ownBlock) : EnvRo w7 w6 v' (l ++ [u]) :=
  ⟨ho, (h.b.alloc h.b.size _).grown hg (by have := h.b.size; simp; omega) (fun g e => (h.own.lt g e).1)⟩
theorem EnvRo.after {w7 W W' : World} {v : Value} {l : List Value} (h : EnvRo w7 W v l) (hb : Below W.heap.size W W') : EnvRo w7 W' v l := ⟨own_below_size h.own hb, h.b.trans (hb.mono h.b.size)⟩
theorem list_x (g : Nat) (bs : List Bool) (x : Int) (hx : trues bs bs.length = [x]) (hl : bs.length = 3) (W : World) (hg : BoolsAt W g bs) : Calls Tryz.prog 81 #[.slice (some ⟨g, 0, none⟩) 3 3] W fun e w' => ∃ A c, e = .returned (.slice A 1 c) ∧ RdI w' A x ∧ Below W.heap.size W w' := by
  have h := list_81 g bs W hg (by omega)
  rw [hx, hl] at h
  refine h.mono ?_
  rintro e w' ⟨v, rfl, ⟨A, c, rfl, ho⟩, hb⟩
  exact ⟨A, c, rfl, rdI_of ho rfl, hb⟩
theorem list_n (g : Nat) (bs : List Bool) (hx : trues bs bs.length = []) (hl : bs.length = 3) (W : World) (hg : BoolsAt W g bs) : Calls Tryz.prog 81 #[.slice (some ⟨g, 0, none⟩) 3 3] W fun e w' => ∃ A c, e = .returned (.slice A 0 c) ∧ Below W.heap.size W w' := by
  have h := list_81 g bs W hg (by omega)
  rw [hx, hl] at h
  refine h.mono ?_
  rintro e w' ⟨v, rfl, ⟨A, c, rfl, ho⟩, hb⟩
  exact ⟨A, c, rfl, hb⟩
theorem EnvRo.ck {w7 W : World} {A A0 A1 A2 : Option Addr} {c c0 c1 c2 : Nat} (h : EnvRo w7 W (.slice A 3 c) [.slice A0 1 c0, .slice A1 1 c1, .slice A2 0 c2]) (h0 : RdI W A0 1) (h1 : RdI W A1 0) : ∃ g, A = some ⟨g, 0, none⟩ ∧ Ck W g ∧ w7.heap.size ≤ g := by
  have ho := h.own
  rcases ho.2 with ⟨e, -⟩ | ⟨g, cap, cur, e, hb, hh, -⟩
  · injection e with e1 e2
    omega
  · injection e with e1 e2 e3
    subst e1
    obtain ⟨y, e, y1, y2, y3⟩ := own_at ho (by simp)
    injection e with e1
    injection e1 with e1
    subst e1
    have q0 := y3 0 _ rfl
    have q1 := y3 1 _ rfl
    have q2 := y3 2 _ rfl
    rw [Go.Joins.cell_of_block hh] at q0 q1 q2
    exact ⟨g, rfl, ⟨⟨cur, A0, c0, A1, c1, A2, c2, hh, q0, q1, q2, h0, h1⟩⟩, hb⟩
set_option maxRecDepth 20000 in
set_option maxHeartbeats 8000000 in
theorem Clash_44 (bb ob : Nat) (w : World) (h : Sm w bb ob) : Calls Tryz.prog 44 #[smV bb] w fun e w' => ∃ g c, e = .returned (.tuple #[.slice (some ⟨g, 0, none⟩) 3 c, .int .i64 0]) ∧ Ck w' g ∧ w.heap.size ≤ g ∧ Below w.heap.size w w' := by
  have HB := Lib.hid ((Below.refl w.heap.size w).alloc (Nat.le_refl _) (.cells #[.string ⟨#[102]⟩, .int .i64 2, .int .i64 3, .slice none 0 0, .slice (some ⟨bb, 0, none⟩) 1 1] 25))
  have H0 := Lib.hid h.boxed
  have HCF := Lib.hid (fun W (hW : Sm W bb ob) => CheckFunc_42 bb ob W hW)
  have HFO := Lib.hid (fun W (hW : Sm W bb ob) => found_75 bb ob W hW)
  clear h
  unfold smV at HCF HFO ⊢
  unfold lvV at HFO
  go_enter Tryz.func44, Tryz.ntmps44
  have hmk := mk138_3
  go_wp2_with (first
    | (go_at_call 75; go_loud ((refine (HFO.out _ H1.out.sm).mono ?_; rintro e w2 ⟨eb, ec, ab, ib, ic, tb, rfl, hl, ha, hi, hil, ht, hb2⟩; have h2 := H1.out.after hb2; obtain ⟨d0, d1, d2, d3, d4⟩ := h2.cells; have dl := h2.fl; have HL := Lib.hid (Lw.new (ec := ec) (ic := ic) h2 hl ha hi hil ht); have HB2 := Lib.hid (HB1.out.trans (hb2.mono HB1.out.size)); clear hl ha hi hil ht hb2 h2 c0 c1 c2 c3 c4)))
    | (go_at_call 42; go_loud ((refine (HCF.out _ H0.out.sm).mono ?_; rintro e w1 ⟨rfl, hb1⟩; have h1 := H0.out.after hb1; obtain ⟨c0, c1, c2, c3, c4⟩ := h1.cells; have H1 := Lib.hid h1; have HB1 := Lib.hid (HB.out.trans (hb1.mono HB.out.size)); clear h1 hb1))))
  have HB3 := Lib.hid (HB2.out.alloc HB2.out.size (lvObj bb eb ec (.slice (some ⟨ab, 0, none⟩) 1 1) (.slice (some ⟨ib, 0, none⟩) 1 ic)))
  have hz3 : (w2.alloc (lvObj bb eb ec (.slice (some ⟨ab, 0, none⟩) 1 1) (.slice (some ⟨ib, 0, none⟩) 1 ic))).heap.size = w2.heap.size + 1 := World.size_alloc _ _
  clear H0 H1 HCF HFO HB HB1 HB2 d0 d1 d2 d3 d4 dl
  unfold lvObj at HL HB3 hz3
  generalize w2.alloc (.cells #[.string ⟨#[102]⟩, .int .i64 2, .int .i64 3, .slice none 0 0, .slice (some ⟨bb, 0, none⟩) 1 1, .slice (some ⟨eb, 0, none⟩) 1 ec, .slice (some ⟨ab, 0, none⟩) 1 1, .slice (some ⟨ib, 0, none⟩) 1 ic] 135) = W3 at *
  generalize w2.heap.size = lb at *
  have HC0 : Hid (EnvRc W3 (W3.alloc (.cells #[] 138)) (.slice (some ⟨lb + 1, 0, none⟩) 0 0) []) := Lib.hid ⟨by rw [← hz3]; exact own_zero W3 W3.heap.size (Nat.le_refl _) 138, (fun s hs => by cases hs), List.nodup_nil, (Below.refl _ _).alloc (Nat.le_refl _) _⟩
  have HZ3 := Lib.hid hz3
  clear hz3
  generalize W3.alloc (.cells #[] 138) = W4 at *
  have HLA := Lib.hid (fun W (hW : Below W3.heap.size W3 W) => HL.out.after hW)
  have HB3S := HB3.out.size
  go_loopg [7, 6] 3 (fun N t v wr => ∃ k ss, k ≤ 3 ∧ N = 3 - k ∧ t = .int .i64 k ∧ EnvRc W3 wr v ss ∧ Hid (ss.length = k))
  case atStart => exact ⟨0, [], by omega, rfl, rfl, HC0.out, Lib.hid rfl⟩
  case round =>
  obtain ⟨k, ss, hk, rfl, rfl, he, HK⟩ := hrel
  clear HC0
  obtain ⟨A9, c9, hv9, -, -⟩ := own_form he.own
  rw [List.length_map, HK.out] at hv9
  subst hv9
  have HE := Lib.hid he
  have hL := HLA.out wr he.b
  obtain ⟨c0, c1, c2, c3, c4⟩ := hL.s.cells
  have HLW := Lib.hid hL
  clear hL he
  by_cases hlt : k < 3
  · have hltI : (k : Int) < 3 := by omega
    have HML : Hid ((ss.map rowS).length + 1 ≤ maxLen ∧ ((ss.map rowS).length + 1) * 24 ≤ 140737488355328) := Lib.hid (by rw [List.length_map, HK.out]; simp only [maxLen]; omega)
    go_wp2_with (at_builtin; go_loud (refine wpList_app_gen (w := (wr.alloc (.cells #[.bool false, .bool false, .bool false] 4)).alloc (.cells #[rowS wr.heap.size] 138)) rfl (.tmp 31) (.tmp 35) 137 138 (.slice none 0 0) 24 Tryz.underlying137 info138 rfl rfl (l := ss.map rowS) (r := rowS wr.heap.size) (g := (wr.alloc (.cells #[.bool false, .bool false, .bool false] 4)).heap.size) (base := W3.heap.size) (v := .slice A9 k c9) rfl ((HE.out.own.alloc _).alloc _) (by rw [World.size_alloc]; rfl) (heap_alloc_new _ _) rfl HML.out.1 HML.out.2 (by have := HE.out.b.size; simp; omega) ?_; intro v6 w6 ho6 hg6 hv6; have he6 := HE.out.app ho6 hg6; obtain ⟨A6, c6, rfl, -, -⟩ := own_form ho6; have HE6 := Lib.hid he6; clear ho6 hg6 hv6 he6))
    go_roundg (3 - (k + 1))
    case measure => omega
    case rel => exact ⟨k + 1, ss ++ [wr.heap.size], by omega, rfl, by go_num, by first | exact HE6.out | (have h9 := HE6.out; simp only [List.length_append, List.length_map, List.length_singleton, List.length_cons, List.length_nil] at h9 ⊢; exact h9), Lib.hid (by rw [List.length_append, HK.out]; rfl)⟩
  · obtain rfl : k = 3 := by omega
    obtain ⟨cb, s0, s1, s2, rfl, hcm, hcb, hs0, hs1, hs2⟩ := HE.out.cm HK.out
    have HCM := Lib.hid hcm
    have HBW := Lib.hid HE.out.b
    clear hcm HE HLW c0 c1 c2 c3 c4
    have hL := HLA.out wr HBW.out
    obtain ⟨c0, c1, c2, c3, c4⟩ := hL.s.cells
    obtain ⟨x0, x1, x2, x3, x4, x5, x6, x7⟩ := hL.cells
    have i0 := hL.i
    have t0 := hL.t.cell (j := 0) rfl
    have htl := (HL.out).t.lt
    have HW0 := Lib.hid (written_0 (c := c9) wr HCM.out rfl rfl hL.t ⟨by omega, by omega⟩)
    clear hL
    go_wp2_with fail
    refine wp_loop_rounds 3 ?_
    rw [rounds_succ]
    go_wp2_with (go_at_call 76; go_loud ((refine HW0.out.mono ?_; rintro e w4 ⟨rfl, hcm, hwr⟩; have hb4 := hwr.b _ _ HBW.out hs0 hs1; have hL := HLA.out w4 hb4; have HCM4 := Lib.hid hcm; have HB4 := Lib.hid hb4; have HL4 := Lib.hid hL; clear hcm hwr hb4 hL)))
    clear c0 c1 c2 c3 c4 x0 x1 x2 x3 x4 x5 x6 x7 i0 t0 HW0 HBW HCM
    obtain ⟨c0, c1, c2, c3, c4⟩ := HL4.out.s.cells
    obtain ⟨x0, x1, x2, x3, x4, x5, x6, x7⟩ := HL4.out.cells
    have i0 := HL4.out.i
    have t1 := HL4.out.t.cell (j := 1) rfl
    have HW1 := Lib.hid (written_1 (c := c9) w4 HCM4.out rfl rfl HL4.out.t ⟨by omega, by omega⟩)
    rw [rounds_succ]
    go_wp2_with (go_at_call 76; go_loud ((refine HW1.out.mono ?_; rintro e w5 ⟨rfl, hcm, hwr⟩; have hb5 := hwr.b _ _ HB4.out hs0 hs1; have hL := HLA.out w5 hb5; have HCM5 := Lib.hid hcm; have HB5 := Lib.hid hb5; have HL5 := Lib.hid hL; clear hcm hwr hb5 hL)))
    clear c0 c1 c2 c3 c4 x0 x1 x2 x3 x4 x5 x6 x7 i0 t1 HW1 HB4 HL4 HCM4
    obtain ⟨c0, c1, c2, c3, c4⟩ := HL5.out.s.cells
    obtain ⟨x0, x1, x2, x3, x4, x5, x6, x7⟩ := HL5.out.cells
    obtain ⟨b0, b1, b2, b3, b4, b5⟩ := HL5.out.s.sm.bcells
    obtain ⟨o0, o1, o2, o3, o4, o5, o6⟩ := HL5.out.s.sm.ocells
    have a0 := HL5.out.a.cell (j := 0) rfl
    obtain ⟨l0, l1, l2⟩ := HL5.out.s.lts
    rw [rounds_succ]
    go_wp2_with fail
    refine wp_loop_rounds 2 ?_
    rw [rounds_succ]
    go_wp2_with fail
    refine wp_loop_rounds 2 ?_
    rw [rounds_succ]
    have hopw := (Below.refl w5.heap.size w5).alloc (Nat.le_refl _) (.cells #[.int .i64 3, .int .i64 2, .int .i64 0, .int .i64 1, .int .i64 0, .string ⟨#[]⟩, .slice none 0 0] 72)
    have HOX := Lib.hid (heap_alloc_new w5 (.cells #[.int .i64 3, .int .i64 2, .int .i64 0, .int .i64 1, .int .i64 0, .string ⟨#[]⟩, .slice none 0 0] 72))
    have HL6 := Lib.hid (HL5.out.after hopw)
    have HCM6 := Lib.hid (HCM5.out.after hopw)
    have HB6 := Lib.hid (HB5.out.trans (hopw.mono HB5.out.size))
    have HPT := Lib.hid (point_1 bb ob eb ec ab ib ic _ HL6.out.l)
    unfold lvV at HPT
    have HJ := Lib.hid Jumps_78
    unfold opV9 at HJ
    have hl5 := HL5.out.lbl
    clear hopw
    go_wp2_with (first
      | (go_at_call 76; go_loud ((refine (written_2 (c := c9) _ HT8.out).mono ?_; rintro e w8 ⟨rfl, rfl⟩)))
      | (go_at_call 78; go_loud ((refine (HJ.out _).mono ?_; rintro e w8 ⟨rfl, hb8⟩; have hL := HL7.out.after hb8; have hcm := HCM7.out.after hb8; have hox := (hb8.block _ (Array.getElem?_eq_some_iff.1 HOX7.out).1).trans HOX7.out; obtain ⟨c0, c1, c2, c3, c4⟩ := hL.s.cells; obtain ⟨b0, b1, b2, b3, b4, b5⟩ := hL.s.sm.bcells; obtain ⟨x0, x1, x2, x3, x4, x5, x6, x7⟩ := hL.cells; obtain ⟨l0, l1, l2⟩ := hL.s.lts; have z0 := Go.Joins.cell_of_block hox 0; have z1 := Go.Joins.cell_of_block hox 1; have HL8 := Lib.hid hL; have HCM8 := Lib.hid hcm; have HB8 := Lib.hid (HB7.out.trans (hb8.mono HB7.out.size)); have HT8 := Lib.hid (HT7.out.below hb8 HT7.out.lt); clear hL hcm hox hb8 HL7 HCM7 HOX7 HB7 HT7 y0 y1 y2 y3 y4 y5 y6)))
      | (go_at_call 77; go_loud ((refine HPT.out.mono ?_; rintro e w7 ⟨tb7, rfl, ht7, -, hb7⟩; have hox := (hb7.block _ (by simp)).trans HOX.out; have y0 := Go.Joins.cell_of_block hox 0; have y1 := Go.Joins.cell_of_block hox 1; have y2 := Go.Joins.cell_of_block hox 2; have y3 := Go.Joins.cell_of_block hox 3; have y4 := Go.Joins.cell_of_block hox 4; have y5 := Go.Joins.cell_of_block hox 5; have y6 := Go.Joins.cell_of_block hox 6; have HL7 := Lib.hid (HL6.out.after hb7); have HCM7 := Lib.hid (HCM6.out.after hb7); have HOX7 := Lib.hid hox; have HB7 := Lib.hid (HB6.out.trans (hb7.mono HB6.out.size)); have HT7 := Lib.hid ht7; clear ht7 hb7 hox c0 c1 c2 c3 c4 x0 x1 x2 x3 x4 x5 x6 x7 b0 b1 b2 b3 b4 b5 o0 o1 o2 o3 o4 o5 o6 a0 l0 l1 l2 HOX HL6 HCM6 HB6 HL5 HCM5 HB5 hl5))))
    rw [rounds_succ]
    go_wp2_with fail
    rw [rounds_succ]
    go_wp2_with fail
    have hal := (Below.refl w8.heap.size w8).alloc (Nat.le_refl _) (.cells #[.int .i64 3, .int .i64 2, .int .i64 (-1), .int .i64 0, .int .i64 0] 50)
    have hz9 : (w8.alloc (.cells #[.int .i64 3, .int .i64 2, .int .i64 (-1), .int .i64 0, .int .i64 0] 50)).heap.size = w8.heap.size + 1 := World.size_alloc _ _
    have HL9 := Lib.hid (HL8.out.after hal)
    have HCM9 := Lib.hid (HCM8.out.after hal)
    have HB9 := Lib.hid (HB8.out.trans (hal.mono HB8.out.size))
    clear hal c0 c1 c2 c3 c4 b0 b1 b2 b3 b4 b5 x0 x1 x2 x3 x4 x5 x6 x7 l0 l1 l2 z0 z1 HL8 HCM8 HB8 HT8
    generalize w8.alloc (.cells #[.int .i64 3, .int .i64 2, .int .i64 (-1), .int .i64 0, .int .i64 0] 50) = w9 at *
    have HR0 : Hid (EnvRo w9 (w9.alloc (.cells #[] 27)) (.slice (some ⟨w8.heap.size + 1, 0, none⟩) 0 0) []) := Lib.hid ⟨by rw [← hz9]; exact own_zero w9 w9.heap.size (Nat.le_refl _) 27, (Below.refl _ _).alloc (Nat.le_refl _) _⟩
    have hal := (Below.refl w9.heap.size w9).alloc (Nat.le_refl _) (.cells #[] 27)
    have HM0 := Lib.hid (HCM9.out.after hal)
    have HN0 := Lib.hid (HL9.out.after hal)
    have HW9 := Lib.hid (HB3.out.trans (HB9.out.mono HB3S))
    clear hal hz9
    generalize w9.alloc (.cells #[] 27) = W0 at *
    generalize w8.heap.size + 1 = rb at *
    have HNB := Lib.hid (fun W (hW : Below w9.heap.size w9 W) => HL9.out.after hW)
    have hm9 : cb < w9.heap.size ∧ s0 < w9.heap.size ∧ s1 < w9.heap.size ∧ s2 < w9.heap.size := ⟨HCM9.out.cells.2.2.2, HCM9.out.b0.lt, HCM9.out.b1.lt, HCM9.out.b2.lt⟩
    obtain ⟨hm1, hm2, hm3, hm4⟩ := hm9
    clear HL9 HCM9 HJ HPT
    refine wp_loop_rounds 4 ?_
    obtain ⟨c0, c1, c2, c3, c4⟩ := HN0.out.s.cells
    obtain ⟨q0, q1, q2, ql⟩ := HM0.out.cells
    rw [rounds_succ]
    go_wp2_with (first
      | (at_builtin; go_loud (refine wpList_app_gen (w := wa0.alloc (.cells #[.slice A0 1 e0] 27)) rfl (.tmp 156) (.tmp 162) 35 27 (.slice none 0 0) 24 Tryz.underlying35 info27 rfl rfl (l := []) (r := .slice A0 1 e0) (g := wa0.heap.size) (base := w9.heap.size) (v := .slice (some ⟨rb, 0, none⟩) 0 0) rfl (HRA.out.own.alloc _) rfl (heap_alloc_new _ _) rfl (by simp [maxLen]) (by simp) (by have := HRA.out.b.size; simp; omega) ?_; intro v6 W1 ho6 hg6 hv6; have hr6 := HRA.out.app ho6 hg6; obtain ⟨R0, d0, hv9, -, -⟩ := own_form ho6; change v6 = .slice R0 1 d0 at hv9; subst hv9; have hwa := HRA.out.b.size; have HI0 := Lib.hid (HI0.out.app HRA.out.own hg6); have HR1 := Lib.hid hr6; have HM1 := Lib.hid (HMA.out.keep fun kk hk => (hg6.block kk (by rcases hk with rfl | rfl | rfl | rfl <;> simp <;> omega) (fun e => by have := (HRA.out.own.lt kk e.symm).1; rcases hk with rfl | rfl | rfl | rfl <;> omega)).trans (heap_alloc_lt _ _ (by rcases hk with rfl | rfl | rfl | rfl <;> omega))); have HN1 := Lib.hid (HNB.out W1 hr6.b); clear ho6 hg6 hv6 hr6 hwa))
      | (go_at_call 81; go_loud ((refine (list_x s0 [false, true, false] 1 (by decide) rfl _ HM0.out.b0).mono ?_; rintro e wa0 ⟨A0, e0, rfl, hr0, hb⟩; have HI0 := Lib.hid hr0; clear hr0; have HMA := Lib.hid (HM0.out.after hb); have HRA := Lib.hid (HR0.out.after hb); clear hb))))
    clear c0 c1 c2 c3 c4 q0 q1 q2 ql
    obtain ⟨c0, c1, c2, c3, c4⟩ := HN1.out.s.cells
    obtain ⟨q0, q1, q2, ql⟩ := HM1.out.cells
    rw [rounds_succ]
    go_wp2_with (first
      | (at_builtin; go_loud (refine wpList_app_gen (w := wa1.alloc (.cells #[.slice A1 1 e1] 27)) rfl (.tmp 156) (.tmp 162) 35 27 (.slice none 0 0) 24 Tryz.underlying35 info27 rfl rfl (l := [.slice A0 1 e0]) (r := .slice A1 1 e1) (g := wa1.heap.size) (base := w9.heap.size) (v := .slice R0 1 d0) rfl (HRA.out.own.alloc _) rfl (heap_alloc_new _ _) rfl (by simp [maxLen]) (by simp) (by have := HRA.out.b.size; simp; omega) ?_; intro v6 W2 ho6 hg6 hv6; have hr6 := HRA.out.app ho6 hg6; obtain ⟨R1, d1, hv9, -, -⟩ := own_form ho6; change v6 = .slice R1 2 d1 at hv9; subst hv9; have hwa := HRA.out.b.size; have HI0 := Lib.hid (HI0.out.app HRA.out.own hg6);have HI1 := Lib.hid (HI1.out.app HRA.out.own hg6); have HR2 := Lib.hid hr6; have HM2 := Lib.hid (HMA.out.keep fun kk hk => (hg6.block kk (by rcases hk with rfl | rfl | rfl | rfl <;> simp <;> omega) (fun e => by have := (HRA.out.own.lt kk e.symm).1; rcases hk with rfl | rfl | rfl | rfl <;> omega)).trans (heap_alloc_lt _ _ (by rcases hk with rfl | rfl | rfl | rfl <;> omega))); have HN2 := Lib.hid (HNB.out W2 hr6.b); clear ho6 hg6 hv6 hr6 hwa))
      | (go_at_call 81; go_loud ((refine (list_x s1 [true, false, false] 0 (by decide) rfl _ HM1.out.b1).mono ?_; rintro e wa1 ⟨A1, e1, rfl, hr1, hb⟩; have HI0 := Lib.hid (HI0.out.after hb); have HI1 := Lib.hid hr1; clear hr1; have HMA := Lib.hid (HM1.out.after hb); have HRA := Lib.hid (HR1.out.after hb); clear hb))))
    clear c0 c1 c2 c3 c4 q0 q1 q2 ql
    obtain ⟨c0, c1, c2, c3, c4⟩ := HN2.out.s.cells
    obtain ⟨q0, q1, q2, ql⟩ := HM2.out.cells
    rw [rounds_succ]
    go_wp2_with (first
      | (at_builtin; go_loud (refine wpList_app_gen (w := wa2.alloc (.cells #[.slice A2 0 e2] 27)) rfl (.tmp 156) (.tmp 162) 35 27 (.slice none 0 0) 24 Tryz.underlying35 info27 rfl rfl (l := [.slice A0 1 e0, .slice A1 1 e1]) (r := .slice A2 0 e2) (g := wa2.heap.size) (base := w9.heap.size) (v := .slice R1 2 d1) rfl (HRA.out.own.alloc _) rfl (heap_alloc_new _ _) rfl (by simp [maxLen]) (by simp) (by have := HRA.out.b.size; simp; omega) ?_; intro v6 W3 ho6 hg6 hv6; have hr6 := HRA.out.app ho6 hg6; obtain ⟨R2, d2, hv9, -, -⟩ := own_form ho6; change v6 = .slice R2 3 d2 at hv9; subst hv9; have hwa := HRA.out.b.size; have HI0 := Lib.hid (HI0.out.app HRA.out.own hg6);have HI1 := Lib.hid (HI1.out.app HRA.out.own hg6); have HR3 := Lib.hid hr6; have HM3 := Lib.hid (HMA.out.keep fun kk hk => (hg6.block kk (by rcases hk with rfl | rfl | rfl | rfl <;> simp <;> omega) (fun e => by have := (HRA.out.own.lt kk e.symm).1; rcases hk with rfl | rfl | rfl | rfl <;> omega)).trans (heap_alloc_lt _ _ (by rcases hk with rfl | rfl | rfl | rfl <;> omega))); have HN3 := Lib.hid (HNB.out W3 hr6.b); clear ho6 hg6 hv6 hr6 hwa))
      | (go_at_call 81; go_loud ((refine (list_n s2 [false, false, false] (by decide) rfl _ HM2.out.b2).mono ?_; rintro e wa2 ⟨A2, e2, rfl, hb⟩; have HI0 := Lib.hid (HI0.out.after hb); have HI1 := Lib.hid (HI1.out.after hb); have HMA := Lib.hid (HM2.out.after hb); have HRA := Lib.hid (HR2.out.after hb); clear hb))))
    clear c0 c1 c2 c3 c4 q0 q1 q2 ql
    obtain ⟨c0, c1, c2, c3, c4⟩ := HN3.out.s.cells
    rw [rounds_succ]
    go_wp2_with fail
    go_ret2
    obtain ⟨g, rfl, hck, hgl⟩ := HR3.out.ck HI0.out HI1.out
    exact ⟨g, _, rfl, hck, Nat.le_trans HW9.out.size hgl, HW9.out.trans (HR3.out.b.mono HW9.out.size)⟩
end Go.Proofs.YthgbmhpfblgjcaaGreatDoor.fl
namespace Go.Proofs.YthgbmhpfblgjcaaGreatDoor.fl
open Go.RowKit Go.Shelf
open M T ty
set_option linter.unusedVariables false
/-- a row of three lists at g -/
def Mx (W : World) (g : Nat) (u0 u1 u2 : Value) : Prop := ∃ cs, W.heap[g]? = some (.cells cs 27 (0, 0)) ∧ cs[0]? = some u0 ∧ cs[1]? = some u1 ∧ cs[2]? = some u2
section
variable {W W' : World} {g : Nat} {u0 u1 u2 : Value}
theorem Mx.lt (h : Mx W g u0 u1 u2) : g < W.heap.size := by
  obtain ⟨cs, h1, -⟩ := h
  exact (Array.getElem?_eq_some_iff.1 h1).1
theorem Mx.cells (h : Mx W g u0 u1 u2) : W.cell? ⟨g, 0, none⟩ = some u0 ∧ W.cell? ⟨g, 1, none⟩ = some u1 ∧ W.cell? ⟨g, 2, none⟩ = some u2 := by
  obtain ⟨cs, h1, h2, h3, h4⟩ := h
  exact ⟨(Go.Joins.cell_of_block h1 0).trans h2, (Go.Joins.cell_of_block h1 1).trans h3, (Go.Joins.cell_of_block h1 2).trans h4⟩
theorem Mx.free (h : Mx W g u0 u1 u2) (o : Nat) : W.frozen? ⟨g, o, none⟩ = false := by
  obtain ⟨cs, h1, -⟩ := h
  exact Go.Joins.unfrozen_of_block h1 o
theorem Mx.after (h : Mx W g u0 u1 u2) (hb : Below W.heap.size W W') : Mx W' g u0 u1 u2 := by
  have hl := h.lt
  obtain ⟨cs, h1, h2⟩ := h
  exact ⟨cs, (hb.block g hl).trans h1, h2⟩
theorem Mx.set0 (h : Mx W g u0 u1 u2) (v : Value) : Mx (W.setCell ⟨g, 0, none⟩ v) g v u1 u2 := by
  obtain ⟨cs, h1, h2, h3, h4⟩ := h
  have : 0 < cs.size := (Array.getElem?_eq_some_iff.1 h2).1
  exact ⟨_, heap_set h1 _, by simp [this], by simpa using h3, by simpa using h4⟩
theorem Mx.set1 (h : Mx W g u0 u1 u2) (v : Value) : Mx (W.setCell ⟨g, 1, none⟩ v) g u0 v u2 := by
  obtain ⟨cs, h1, h2, h3, h4⟩ := h
  have : 1 < cs.size := (Array.getElem?_eq_some_iff.1 h3).1
  exact ⟨_, heap_set h1 _, by simpa using h2, by simp [this], by simpa using h4⟩
theorem Mx.set2 (h : Mx W g u0 u1 u2) (v : Value) : Mx (W.setCell ⟨g, 2, none⟩ v) g u0 u1 v := by
  obtain ⟨cs, h1, h2, h3, h4⟩ := h
  have : 2 < cs.size := (Array.getElem?_eq_some_iff.1 h4).1
  exact ⟨_, heap_set h1 _, by simpa using h2, by simpa using h3, by simp [this]⟩
theorem RdI.setg {A : Option Addr} {x : Int} (h : RdI W A x) (hm : Mx W g u0 u1 u2) {o : Nat} (v : Value) : RdI (W.setCell ⟨g, o, none⟩ v) A x := by
  obtain ⟨cs, h1, -⟩ := hm
  refine h.keep fun a cs' ha => heap_other _ (fun e => ?_)
  rw [e] at ha
  have := ha.symm.trans h1
  simp at this
theorem RdI.cell {A : Option Addr} {x : Int} (h : RdI W A x) : ∃ a, A = some ⟨a, 0, none⟩ ∧ W.cell? ⟨a, 0, none⟩ = some (.int .i64 x) ∧ a < W.heap.size := by
  obtain ⟨a, cs, rfl, h1, h2⟩ := h
  exact ⟨a, rfl, (Go.Joins.cell_of_block h1 0).trans h2, (Array.getElem?_eq_some_iff.1 h1).1⟩
end
theorem Rising_any1 {A : Option Addr} {x : Int} (c : Nat) (W : World) (h : RdI W A x) : Calls Tryz.prog 83 #[.slice A 1 c] W fun e w' => ∃ R rc, e = .returned (.slice R 1 rc) ∧ Below W.heap.size W w' := by
  obtain ⟨a, rfl, hc, hl⟩ := h.cell
  exact Rising_one a c x W hc hl
set_option maxHeartbeats 1000000 in
theorem Rising_zero (A : Option Addr) (c : Nat) (w : World) : Calls Tryz.prog 83 #[.slice A 0 c] w fun e w' => ∃ R rc, e = .returned (.slice R 0 rc) ∧ Below w.heap.size w w' := by
  go_enter Tryz.func83, Tryz.ntmps83
  go_wp2_with fail
  refine wp_loop_rounds 1 ?_
  rw [rounds_succ]
  go_wp2_with fail
  go_ret
  exact ⟨_, _, rfl, (Below.refl _ _).alloc (Nat.le_refl _) _⟩
set_option maxRecDepth 20000 in
set_option maxHeartbeats 8000000 in
theorem Must_45 (bb ob : Nat) (w : World) (h : Sm w bb ob) : Calls Tryz.prog 45 #[smV bb] w fun e w' => ∃ g c R0 r0 R1 r1 R2 r2, e = .returned (.tuple #[.slice (some ⟨g, 0, none⟩) 3 c, .int .i64 0]) ∧ Mx w' g (.slice R0 1 r0) (.slice R1 1 r1) (.slice R2 0 r2) ∧ Below w.heap.size w w' := by
  have HB := Lib.hid ((Below.refl w.heap.size w).alloc (Nat.le_refl _) (.cells #[.string ⟨#[102]⟩, .int .i64 2, .int .i64 3, .slice none 0 0, .slice (some ⟨bb, 0, none⟩) 1 1] 25))
  have H0 := Lib.hid h.boxed
  have HCL := Lib.hid (fun W (hW : Sm W bb ob) => Clash_44 bb ob W hW)
  have HAN := Lib.hid (fun W (hW : Sm W bb ob) => Analyze_47 bb ob W hW)
  clear h
  unfold smV at HCL HAN ⊢
  go_enter Tryz.func45, Tryz.ntmps45
  go_wp2_with (first
    | (go_at_call 47; go_loud ((refine (HAN.out _ H1.out.sm).mono ?_; rintro e w2 ⟨A2, rfl, hb2⟩; have HM2 := Lib.hid (HM1.out.after hb2); have HI0 := Lib.hid (HI0.out.after hb2); have HI1 := Lib.hid (HI1.out.after hb2); have HB2 := Lib.hid (HB1.out.trans (hb2.mono HB1.out.size)); clear hb2 c0 c1 c2 c3 c4)))
    | (go_at_call 44; go_loud ((refine (HCL.out _ H0.out.sm).mono ?_; rintro e w1 ⟨g, c, rfl, ⟨⟨cs, A0, e0, A1, e1, A3, e3, hg, h0, h1, h3, hi0, hi1⟩⟩, hgl, hb1⟩; have hs1 := H0.out.after hb1; obtain ⟨c0, c1, c2, c3, c4⟩ := hs1.cells; have H1 := Lib.hid hs1; have HM1 : Hid (Mx w1 g (.slice A0 1 e0) (.slice A1 1 e1) (.slice A3 0 e3)) := Lib.hid ⟨cs, hg, h0, h1, h3⟩; have HI0 := Lib.hid hi0; have HI1 := Lib.hid hi1; have HGL : Hid (w.heap.size ≤ g) := Lib.hid (by rw [World.size_alloc] at hgl; omega); have HB1 := Lib.hid (HB.out.trans (hb1.mono HB.out.size)); clear hs1 hg h0 h1 h3 hi0 hi1 hgl hb1))))
  refine wp_loop_rounds 1 ?_
  rw [rounds_succ]
  go_wp2_with fail
  clear HCL HAN H0 H1 HM1 HB HB1
  obtain ⟨q0, q1, q2⟩ := HM2.out.cells
  have gl := HM2.out.lt
  refine wp_loop_rounds 4 ?_
  rw [rounds_succ]
  go_wp2_with (go_at_call 83; go_loud ((refine (Rising_any1 _ _ HI0.out).mono ?_; rintro e w3 ⟨R0, r0, rfl, hb3⟩; have hm3 := HM2.out.after hb3; obtain ⟨p0, p1, p2⟩ := hm3.cells; have pf := hm3.free 0; have pl := hm3.lt; have HM3 := Lib.hid (hm3.set0 (.slice R0 1 r0)); have HI3 := Lib.hid ((HI1.out.after hb3).setg hm3 (o := 0) (.slice R0 1 r0)); have HB3 := Lib.hid ((HB2.out.trans (hb3.mono HB2.out.size)).setCell (p := ⟨g, 0, none⟩) HGL.out (.slice R0 1 r0)); clear hb3 hm3)))
  clear q0 q1 q2 gl p0 p1 p2 pf pl
  generalize w3.setCell ⟨g, 0, none⟩ (.slice R0 1 r0) = W3 at *
  obtain ⟨q0, q1, q2⟩ := HM3.out.cells
  have gl := HM3.out.lt
  rw [rounds_succ]
  go_wp2_with (go_at_call 83; go_loud ((refine (Rising_any1 _ _ HI3.out).mono ?_; rintro e w4 ⟨R1, r1, rfl, hb4⟩; have hm4 := HM3.out.after hb4; obtain ⟨p0, p1, p2⟩ := hm4.cells; have pf := hm4.free 1; have pl := hm4.lt; have HM4 := Lib.hid (hm4.set1 (.slice R1 1 r1)); have HB4 := Lib.hid ((HB3.out.trans (hb4.mono HB3.out.size)).setCell (p := ⟨g, 1, none⟩) HGL.out (.slice R1 1 r1)); clear hb4 hm4)))
  clear q0 q1 q2 gl p0 p1 p2 pf pl
  generalize w4.setCell ⟨g, 1, none⟩ (.slice R1 1 r1) = W4 at *
  obtain ⟨q0, q1, q2⟩ := HM4.out.cells
  have gl := HM4.out.lt
  rw [rounds_succ]
  go_wp2_with (go_at_call 83; go_loud ((refine (Rising_zero _ _ _).mono ?_; rintro e w5 ⟨R2, r2, rfl, hb5⟩; have hm5 := HM4.out.after hb5; obtain ⟨p0, p1, p2⟩ := hm5.cells; have pf := hm5.free 2; have pl := hm5.lt; have HM5 := Lib.hid (hm5.set2 (.slice R2 0 r2)); have HB5 := Lib.hid ((HB4.out.trans (hb5.mono HB4.out.size)).setCell (p := ⟨g, 2, none⟩) HGL.out (.slice R2 0 r2)); clear hb5 hm5)))
  rw [rounds_succ]
  go_wp2_with fail
  go_ret2
  exact ⟨_, _, _, _, _, _, _, _, rfl, HM5.out, HB5.out⟩
end Go.Proofs.YthgbmhpfblgjcaaGreatDoor.fl
namespace Go.Proofs.YthgbmhpfblgjcaaGreatDoor.fl
open Go.RowKit Go.Shelf
open M T ty
set_option linter.unusedVariables false
theorem Ck.open {W : World} {g : Nat} (h : Ck W g) : ∃ a0 e0 a1 e1 A2 e2, Mx W g (.slice (some ⟨a0, 0, none⟩) 1 e0) (.slice (some ⟨a1, 0, none⟩) 1 e1) (.slice A2 0 e2) ∧ W.cell? ⟨a0, 0, none⟩ = some (.int .i64 1) ∧ W.cell? ⟨a1, 0, none⟩ = some (.int .i64 0) ∧ a0 < W.heap.size ∧ a1 < W.heap.size := by
  obtain ⟨cs, A0, c0, A1, c1, A2, c2, h1, h2, h3, h4, h5, h6⟩ := h.r
  obtain ⟨a0, rfl, p0, l0⟩ := h5.cell
  obtain ⟨a1, rfl, p1, l1⟩ := h6.cell
  exact ⟨a0, c0, a1, c1, A2, c2, ⟨cs, h1, h2, h3, h4⟩, p0, p1, l0, l1⟩
set_option maxRecDepth 20000 in
set_option maxHeartbeats 8000000 in
theorem Check_20 (hneeds : ∀ W bb ob, Sm W bb ob → Calls Tryz.prog 43 #[smV bb] W fun e w' => ∃ A n c, e = .returned (.slice A n c) ∧ Below W.heap.size W w')
    (bb ob pc : Nat) (ad a1 a2 : Addr) (w : World) (h : Sm w bb ob) (e1 : ad.add 1 = a1) (e2 : ad.add 2 = a2) (h0 : w.cell? ad = some (.int .i64 0)) (h1 : w.cell? a1 = some (.int .i64 1)) (h2 : w.cell? a2 = some (.int .i64 0)) (hp : ad.block < w.heap.size ∧ a1.block < w.heap.size ∧ a2.block < w.heap.size) :
    Calls Tryz.prog 20 #[smV bb, .agg #[.slice (some ad) 3 pc, .int .i64 0]] w fun e w' => e = .returned (.int .i64 0) ∧ Below w.heap.size w w' := by
  have HB := Lib.hid (((Below.refl w.heap.size w).alloc (Nat.le_refl _) (.cells #[.string ⟨#[102]⟩, .int .i64 2, .int .i64 3, .slice none 0 0, .slice (some ⟨bb, 0, none⟩) 1 1] 25)).alloc (by simp) (.cells #[.slice (some ad) 3 pc, .int .i64 0] 29))
  have H0 := Lib.hid (h.boxed.alloc (.cells #[.slice (some ad) 3 pc, .int .i64 0] 29))
  have HX : Hid (((w.alloc (.cells #[.string ⟨#[102]⟩, .int .i64 2, .int .i64 3, .slice none 0 0, .slice (some ⟨bb, 0, none⟩) 1 1] 25)).alloc (.cells #[.slice (some ad) 3 pc, .int .i64 0] 29)).heap[w.heap.size + 1]? = some (.cells #[.slice (some ad) 3 pc, .int .i64 0] 29 (0, 0))) := Lib.hid (by
    have h9 := heap_alloc_new (w.alloc (.cells #[.string ⟨#[102]⟩, .int .i64 2, .int .i64 3, .slice none 0 0, .slice (some ⟨bb, 0, none⟩) 1 1] 25)) (.cells #[.slice (some ad) 3 pc, .int .i64 0] 29)
    rw [World.size_alloc] at h9
    exact h9)
  have HP := Lib.hid (fun W (hW : Below w.heap.size w W) => (⟨(hW.cell hp.1).trans h0, (hW.cell hp.2.1).trans h1, (hW.cell hp.2.2).trans h2⟩ : W.cell? ad = some (.int .i64 0) ∧ W.cell? a1 = some (.int .i64 1) ∧ W.cell? a2 = some (.int .i64 0)))
  have HCF := Lib.hid (fun W (hW : Sm W bb ob) => CheckFunc_42 bb ob W hW)
  have HND := Lib.hid (fun W (hW : Sm W bb ob) => hneeds W bb ob hW)
  have HCL := Lib.hid (fun W (hW : Sm W bb ob) => Clash_44 bb ob W hW)
  have HMU := Lib.hid (fun W (hW : Sm W bb ob) => Must_45 bb ob W hW)
  have HAC := Lib.hid (fun W (hW : Sm W bb ob) => Across_46 bb ob W hW)
  have HAN := Lib.hid (fun W (hW : Sm W bb ob) => Analyze_47 bb ob W hW)
  have HLV := Lib.hid (fun W (hW : Sm W bb ob) => Live_48 bb ob W hW)
  -- what stands behind each call
  have HK : Hid (∀ W0 W1, SmB W0 w.heap.size bb ob → W0.heap[w.heap.size + 1]? = some (.cells #[.slice (some ad) 3 pc, .int .i64 0] 29 (0, 0)) → Below w.heap.size w W0 → Below W0.heap.size W0 W1 → SmB W1 w.heap.size bb ob ∧ W1.heap[w.heap.size + 1]? = some (.cells #[.slice (some ad) 3 pc, .int .i64 0] 29 (0, 0)) ∧ Below w.heap.size w W1) := Lib.hid fun W0 W1 k1 k2 k3 k4 => ⟨k1.after k4, (k4.block _ (Array.getElem?_eq_some_iff.1 k2).1).trans k2, k3.trans (k4.mono k3.size)⟩
  clear h h0 h1 h2 hneeds
  unfold smV at HCF HND HCL HMU HAC HAN HLV ⊢
  go_enter Tryz.func20, Tryz.ntmps20
  go_wp2_with (first
    | (go_at_call 43; go_loud ((refine (HND.out _ S1.out.sm).mono ?_; rintro e w2 ⟨NA, nn, nc, rfl, hb2⟩; obtain ⟨hs, hx, hb⟩ := HK.out _ _ S1.out X1.out B1.out hb2; obtain ⟨c0, c1, c2, c3, c4⟩ := hs.cells; have y0 := Go.Joins.cell_of_block hx 0; have y1 := Go.Joins.cell_of_block hx 1; obtain ⟨p0, p1, p2⟩ := HP.out _ hb; have S2 := Lib.hid hs; have X2 := Lib.hid hx; have B2 := Lib.hid hb; clear hs hx hb hb2)))
    | (go_at_call 42; go_loud ((refine (HCF.out _ H0.out.sm).mono ?_; rintro e w1 ⟨rfl, hb1⟩; obtain ⟨hs, hx, hb⟩ := HK.out _ _ H0.out HX.out HB.out hb1; obtain ⟨c0, c1, c2, c3, c4⟩ := hs.cells; have y0 := Go.Joins.cell_of_block hx 0; have y1 := Go.Joins.cell_of_block hx 1; have S1 := Lib.hid hs; have X1 := Lib.hid hx; have B1 := Lib.hid hb; clear hs hx hb hb1))))
  refine wp_loop_rounds 4 ?_
  rw [rounds_succ]
  go_wp2_with fail
  rw [rounds_succ]
  go_wp2_with fail
  rw [rounds_succ]
  go_wp2_with fail
  rw [rounds_succ]
  go_wp2_with (first
    | (go_at_call 46; go_loud ((refine (HAC.out _ S4.out.sm).mono ?_; rintro e w5 ⟨v5, rfl, ⟨VA, vc, rfl, -⟩, hb5⟩; obtain ⟨hs, hx, hb⟩ := HK.out _ _ S4.out X4.out B4.out hb5; have hm := M4.out.after hb5; have hc := C4.out.after hb5; have e0 := (hb5.cell (p := ⟨j0, 0, none⟩) L4.out.1).trans E4.out.1; have e1 := (hb5.cell (p := ⟨j1, 0, none⟩) L4.out.2).trans E4.out.2; obtain ⟨c0, c1, c2, c3, c4⟩ := hs.cells; have y0 := Go.Joins.cell_of_block hx 0; have y1 := Go.Joins.cell_of_block hx 1; obtain ⟨p0, p1, p2⟩ := HP.out _ hb; obtain ⟨m0, m1, m2⟩ := hm.cells; obtain ⟨k0, k1, k2⟩ := hc.cells; have S5 := Lib.hid hs; have X5 := Lib.hid hx; have B5 := Lib.hid hb; clear hs hx hb hb5 hm hc)))
    | (go_at_call 45; go_loud ((refine (HMU.out _ S3.out.sm).mono ?_; rintro e w4 ⟨g2, mc, R0, r0, R1, r1, R2, r2, rfl, hmx, hb4⟩; obtain ⟨hs, hx, hb⟩ := HK.out _ _ S3.out X3.out B3.out hb4; have hc := C3.out.after hb4; have E4 : Hid (w4.cell? ⟨j0, 0, none⟩ = some (.int .i64 1) ∧ w4.cell? ⟨j1, 0, none⟩ = some (.int .i64 0)) := Lib.hid ⟨(hb4.cell (p := ⟨j0, 0, none⟩) L3.out.1).trans E3.out.1, (hb4.cell (p := ⟨j1, 0, none⟩) L3.out.2).trans E3.out.2⟩; have L4 : Hid (j0 < w4.heap.size ∧ j1 < w4.heap.size) := Lib.hid ⟨Nat.lt_of_lt_of_le L3.out.1 hb4.size, Nat.lt_of_lt_of_le L3.out.2 hb4.size⟩; obtain ⟨c0, c1, c2, c3, c4⟩ := hs.cells; have S4 := Lib.hid hs; have X4 := Lib.hid hx; have B4 := Lib.hid hb; have M4 := Lib.hid hmx; have C4 := Lib.hid hc; clear hs hx hb hb4 hmx hc)))
    | (go_at_call 44; go_loud ((refine (HCL.out _ S2.out.sm).mono ?_; rintro e w3 ⟨g, gc, rfl, hck, -, hb3⟩; obtain ⟨hs, hx, hb⟩ := HK.out _ _ S2.out X2.out B2.out hb3; obtain ⟨j0, f0, j1, f1, A2, f2, hmx, he0, he1, hl0, hl1⟩ := hck.open; obtain ⟨c0, c1, c2, c3, c4⟩ := hs.cells; have S3 := Lib.hid hs; have X3 := Lib.hid hx; have B3 := Lib.hid hb; have C3 := Lib.hid hmx; have E3 := Lib.hid (And.intro he0 he1); have L3 := Lib.hid (And.intro hl0 hl1); clear hs hx hb hb3 hck hmx he0 he1 hl0 hl1))))
  clear HCF HND HCL HMU HAC H0 HX HB S1 X1 B1 S2 X2 B2 S3 X3 B3 C3 E3 L3 S4 X4 B4 M4 C4 E4 L4
  refine wp_loop_rounds 4 ?_
  rw [rounds_succ]
  go_wp2_with fail
  refine wp_loop_rounds 2 ?_
  rw [rounds_succ]
  go_upto_region 22 with fail
  go_quiet (fail)
  go_wp2_with fail
  rw [rounds_succ]
  go_wp2_with fail
  refine wp_loop_rounds 2 ?_
  rw [rounds_succ]
  go_upto_region 27 with fail
  go_quiet (fail)
  go_wp2_with fail
  rw [rounds_succ]
  go_wp2_with fail
  rw [rounds_succ]
  go_wp2_with fail
  refine wp_loop_rounds 2 ?_
  rw [rounds_succ]
  go_upto_region 22 with fail
  go_quiet (fail)
  go_wp2_with fail
  rw [rounds_succ]
  go_wp2_with fail
  refine wp_loop_rounds 2 ?_
  rw [rounds_succ]
  go_upto_region 27 with fail
  go_quiet (fail)
  go_wp2_with fail
  rw [rounds_succ]
  go_wp2_with fail
  rw [rounds_succ]
  go_wp2_with fail
  refine wp_loop_rounds 1 ?_
  rw [rounds_succ]
  go_wp2_with fail
  refine wp_loop_rounds 1 ?_
  rw [rounds_succ]
  go_wp2_with fail
  rw [rounds_succ]
  go_wp2_with (first
    | (go_at_call 48; go_loud ((refine (HLV.out _ S6.out.sm).mono ?_; rintro e w7 ⟨LA, ln, lc, LB, lm, ld, rfl, hb7⟩; obtain ⟨hs, hx, hb⟩ := HK.out _ _ S6.out X6.out B6.out hb7; have B7 := Lib.hid hb; clear hs hx hb hb7)))
    | (go_at_call 47; go_loud ((refine (HAN.out _ (by exact ⟨S5.out.sm.b, S5.out.sm.o⟩)).mono ?_; rintro e w6 ⟨AA, rfl, hb6⟩; obtain ⟨hs, hx, hb⟩ := HK.out _ _ (by exact ⟨⟨S5.out.sm.b, S5.out.sm.o⟩, S5.out.box⟩) (by exact X5.out) (by exact ⟨B5.out.os, B5.out.tape, B5.out.output, B5.out.size, B5.out.block⟩) hb6; obtain ⟨c0, c1, c2, c3, c4⟩ := hs.cells; have S6 := Lib.hid hs; have X6 := Lib.hid hx; have B6 := Lib.hid hb; clear hs hx hb hb6))))
  refine wp_loop_rounds 1 ?_
  rw [rounds_succ]
  go_wp2_with fail
  refine wp_loop_rounds 1 ?_
  rw [rounds_succ]
  go_wp2_with fail
  go_ret
  exact ⟨rfl, B7.out.alloc B7.out.size _⟩
end Go.Proofs.YthgbmhpfblgjcaaGreatDoor.fl
