/-
  The walk of the law AllocMore. Condition: the function stands.
-/
import Derived.Test.YthgbmhpfblgjcaaGreatDoorAlM
import Derived.Test.YthgbmhpfblgjcaaGreatDoorAlR
set_option linter.unusedVariables false
set_option linter.unusedSimpArgs false
namespace Go.Proofs.YthgbmhpfblgjcaaGreatDoor.fl
open Go.RowKit Go.Shelf
open M T ty
set_option linter.unusedVariables false
section
variable {f : Fn} {rc : List Bool} {s : Ins} {r : Nat} {st : Int} {ps : List Int} {wd : Int}
theorem check_more (hg : Good st f) (hreg : f.regs = (r : Int)) (hs : InsOk r s) (hfo : Found (tos f.bl) (-1) 0 rc) (hli : Lives (tos f.bl) f.bl rc s) (hct : ∀ k, clash f.params.toNat f.bl rc s k < 2 ^ r) (hps : ps.length = r) (hall : AllR f rc s r ps r) (hsh : ShapeP ps wd r) (h4 : r + 1 ≤ 4096) (L' : FLay) (W : World) (A : Option Addr) (c : Nat) (hst : Stands W (moreF f) L' (r + 1)) (hrd : Rd W W.heap.size A (ints (ps ++ [-1]))) :
    Calls Tryz.prog 16 #[fnV (moreF f) L', .agg #[.slice A (r + 1) c, .int .i64 wd]] W fun e w' => e = .returned (.int .i64 0) ∧ Below W.heap.size W w' := by
  have hl : (ps ++ [-1]).length = r + 1 := by simp [hps]
  have h0 := hsh.2.1
  have h1 := hsh.2.2.1
  have hck := Check_16 (moreF f) L' (r + 1) W hst (ps ++ [-1]) wd (PA := A) (pc := c) hrd (by omega) (by omega) (by omega)
  rw [hl] at hck
  refine hck.mono ?_
  rintro e w' ⟨rc', s', n, rfl, hfo', hli', -, -, hn, hb⟩
  obtain rfl := hfo.unique hfo'
  obtain rfl := hli.unique hli'
  obtain rfl := hn.2 ⟨more_shape hsh, more_right hg hreg hs hct hps hall⟩
  exact ⟨rfl, hb⟩
theorem check_not (hps : ps.length = r) (hsh : ShapeP ps wd r) (h4 : r + 1 ≤ 4096) (L' : FLay) (W : World) (A : Option Addr) (c : Nat) (hst : Stands W (moreF f) L' (r + 1)) (hrd : Rd W W.heap.size A (ints (ps ++ [16 + wd]))) :
    Calls Tryz.prog 16 #[fnV (moreF f) L', .agg #[.slice A (r + 1) c, .int .i64 wd]] W fun e w' => e = .returned (.int .i64 5) ∧ Below W.heap.size W w' := by
  have hl : (ps ++ [16 + wd]).length = r + 1 := by simp [hps]
  have h0 := hsh.2.1
  have h1 := hsh.2.2.1
  have hck := Check_16 (moreF f) L' (r + 1) W hst (ps ++ [16 + wd]) wd (PA := A) (pc := c) hrd (by omega) (by omega) (by omega)
  rw [hl] at hck
  refine hck.mono ?_
  rintro e w' ⟨rc', s', n, rfl, hfo', hli', -, h05, hn, hb⟩
  have h5 : n = 5 := by
    rcases h05 with h05 | h05
    · exact absurd (hn.1 h05).1 more_not
    · exact h05
  subst h5
  exact ⟨rfl, hb⟩
end
theorem Stands.more {w : World} {f : Fn} {L L' : FLay} {r : Nat} (h : Stands w f L r) (hr : r < 4096) {W : World} (hb : Below w.heap.size w W) (hf : FnAt W W.heap.size f L') : Stands W (moreF f) L' (r + 1) :=
  ⟨⟨hf.slots, hf.bls⟩, h.tabs.after hb, ⟨h.fits.name, h.fits.op⟩, fnB_more h.ok (by have := h.reg; omega), by have := h.reg; show f.regs + 1 = _; omega⟩
set_option maxRecDepth 20000 in
set_option maxHeartbeats 16000000 in
theorem more_law (hworks : ∀ w, Tabs w → Calls Tryz.prog 6 #[] w fun e w' => e = .returned (.bool true) ∧ Below w.heap.size w w') (f : Fn) (L : FLay) (w : World) (h : Lies w f L) :
    Calls Tryz.prog 4 #[fnV f L] w fun e w' => e = .returned (.bool true) ∧ Below w.heap.size w w' := by
  have HAL : Hid (Below w.heap.size w (w.alloc (FObj f L))) := Lib.hid ((Below.refl _ _).alloc (Nat.le_refl _) _)
  have HLI := Lib.hid (fun W (hW : Below w.heap.size w W) => h.after hW)
  have HWK := Lib.hid (hworks _ (h.after HAL.out).tabs)
  have HV : Hid (FBox (w.alloc (FObj f L)) w.heap.size f L) := Lib.hid (heap_alloc_new w _)
  cases hok : fnB 4611686018427387904 f with
  | false =>
    have HAS := Lib.hid (fun W (hW : Below w.heap.size w W) => Assign_no f L W (HLI.out W hW) hok)
    clear h hok
    obtain ⟨SA, sc, BA, bc, OA, oc, AA, ac⟩ := L
    unfold fnV at HAS ⊢
    unfold FObj at HAL HWK HV
    simp only at HAL HWK HV HAS ⊢
    go_enter Tryz.func4, Tryz.ntmps4
    go_wp2_with (first
      | (go_at_call 7; go_loud ((refine (HAS.out _ HB1.out).mono ?_; rintro e w2 ⟨rfl, hb2⟩; have HB2 := Lib.hid (HB1.out.trans (hb2.mono HB1.out.size)); clear hb2)))
      | (go_at_call 6; go_loud ((refine HWK.out.mono ?_; rintro e w1 ⟨rfl, hb1⟩; obtain ⟨c0, c1, c2, c3, c4⟩ := (HV.out.after hb1).cells; have HB1 := Lib.hid (HAL.out.trans (hb1.mono HAL.out.size)); clear hb1))))
    go_ret
    exact ⟨rfl, HB2.out.alloc HB2.out.size _⟩
  | true =>
    have hst0 := h.stands hok
    have hreg := hst0.reg
    have hgd := hst0.good
    generalize f.regs.toNat = r at *
    have hr4 := hst0.r4
    have hrI : (r : Int) ≤ 4096 := by omega
    have HG := Lib.hid hgd
    have HST := Lib.hid (fun W (hW : Below w.heap.size w W) => hst0.after hW)
    have HMO : Hid (r < 4096 → ∀ W L', Below w.heap.size w W → FnAt W W.heap.size f L' → Stands W (moreF f) L' (r + 1)) := Lib.hid fun hr W L' hW hf => hst0.more hr hW hf
    have HAS := Lib.hid (fun W (hW : Below w.heap.size w W) => Assign_7 f L r W (HST.out W hW))
    have HCP := Lib.hid (fun W (hW : Below w.heap.size w W) => CopyFunc_14 f L r W (HST.out W hW))
    have HREG := Lib.hid hreg
    clear h hok hst0 hreg hgd HLI
    obtain ⟨SA, sc, BA, bc, OA, oc, AA, ac⟩ := L
    unfold fnV at HAS HCP ⊢
    unfold AssignP at HAS
    unfold CopyP at HCP
    unfold FObj at HAL HWK HV
    simp only at HAL HWK HV HAS HCP ⊢
    go_enter Tryz.func4, Tryz.ntmps4
    go_upto_region 4 with (first
      | (go_at_call 7; go_loud ((refine (HAS.out _ HB1.out).mono ?_; rintro e w2 ⟨rc, s, A, c, rfl, hps, hfo, hli, hct, hb2⟩; have HPS := Lib.hid hps; have HFO := Lib.hid hfo; have HLI := Lib.hid hli; have HCT := Lib.hid hct; have HV2 := Lib.hid (HV1.out.after hb2); have HB2 := Lib.hid (HB1.out.trans (hb2.mono HB1.out.size)); clear hps hfo hli hct hb2 c0 c1 c2 c3 c4)))
      | (go_at_call 6; go_loud ((refine HWK.out.mono ?_; rintro e w1 ⟨rfl, hb1⟩; have HV1 := Lib.hid (HV.out.after hb1); obtain ⟨c0, c1, c2, c3, c4⟩ := (HV.out.after hb1).cells; have HB1 := Lib.hid (HAL.out.trans (hb1.mono HAL.out.size)); clear hb1))))
    have HALL : Hid (AllR f rc s r (asgK f rc s r r).1 r) := Lib.hid (asgK_right hr4 HCT.out)
    have HPL : Hid ((asgK f rc s r r).1.length = r) := Lib.hid (asgK_in HCT.out).1.1
    have HBLK : Hid (∀ x ∈ f.bl, BlOk r x) := Lib.hid (by have h1 := HG.out.blOk; rw [HREG.out, Int.toNat_natCast] at h1; exact h1)
    have HINS : Hid (InsOk r s) := Lib.hid (Lives.ok HBLK.out HLI.out).1
    have HSH : Hid (ShapeP (asgK f rc s r r).1 ((asgK f rc s r r).2 : Int) r) := Lib.hid (asgK_shape hr4 HCT.out)
    have HCM : Hid (r + 1 ≤ 4096 → ∀ (L' : FLay) (W : World) (A : Option Addr) (c : Nat), Stands W (moreF f) L' (r + 1) → Rd W W.heap.size A (ints ((asgK f rc s r r).1 ++ [-1])) → Calls Tryz.prog 16 #[fnV (moreF f) L', .agg #[.slice A (r + 1) c, .int .i64 ((asgK f rc s r r).2 : Int)]] W fun e w' => e = .returned (.int .i64 0) ∧ Below W.heap.size W w') := Lib.hid fun h4 L' W A c hst hrd => check_more HG.out HREG.out HINS.out HFO.out HLI.out HCT.out HPL.out HALL.out HSH.out h4 L' W A c hst hrd
    have HCN : Hid (r + 1 ≤ 4096 → ∀ (L' : FLay) (W : World) (A : Option Addr) (c : Nat), Stands W (moreF f) L' (r + 1) → Rd W W.heap.size A (ints ((asgK f rc s r r).1 ++ [16 + ((asgK f rc s r r).2 : Int)])) → Calls Tryz.prog 16 #[fnV (moreF f) L', .agg #[.slice A (r + 1) c, .int .i64 ((asgK f rc s r r).2 : Int)]] W fun e w' => e = .returned (.int .i64 5) ∧ Below W.heap.size W w') := Lib.hid fun h4 L' W A c hst hrd => check_not HPL.out HSH.out h4 L' W A c hst hrd
    have hal3 := (Below.refl w2.heap.size w2).alloc (Nat.le_refl _) (.cells #[.slice A r c, .int .i64 ((asgK f rc s r r).2 : Int)] 29)
    have HB3 := Lib.hid (HB2.out.trans (hal3.mono HB2.out.size))
    have HV3 := Lib.hid (HV2.out.after hal3)
    have HPS3 := Lib.hid (((HPS.out.rd (B := w2.heap.size) fun k hk => hk.2).below hal3).more hal3.size)
    have HX3 := Lib.hid (heap_alloc_new w2 (.cells #[.slice A r c, .int .i64 ((asgK f rc s r r).2 : Int)] 29))
    have hwab : w.heap.size < w2.heap.size := HV2.out.lt
    have hwd0 : 0 ≤ ((asgK f rc s r r).2 : Int) := HSH.out.2.1
    have hwd4 : ((asgK f rc s r r).2 : Int) ≤ 4096 := HSH.out.2.2.1
    clear hal3 HPS HCT HALL HV2 HAS HWK HAL HV HV1 HB1 HSH
    generalize (asgK f rc s r r).1 = ps at *
    generalize ((asgK f rc s r r).2 : Int) = wd at *
    generalize w2.alloc (.cells #[.slice A r c, .int .i64 wd] 29) = W3 at *
    generalize w2.heap.size = ab at *
    have hab3 : ab < W3.heap.size := (Array.getElem?_eq_some_iff.1 HX3.out).1
    have hwf3 : w.heap.size < W3.heap.size := HV3.out.lt
    obtain ⟨-, -, c2, -, -⟩ := HV3.out.cells
    rw [HREG.out] at c2
    by_cases hlt : r < 4096
    · have hltI : (r : Int) < 4096 := by omega
      go_upto_region 6 with fail
      clear c2
      obtain ⟨c0, c1, c2, c3, c4⟩ := HV3.out.cells
      go_upto_region 7 with (go_at_call 14; go_loud ((refine (HCP.out _ HB3.out).mono ?_; rintro e w4 ⟨S4, sc4, BA4, bc4, xs, rfl, hcop, hb4⟩; have HCO := Lib.hid hcop; have HB34 := Lib.hid hb4; clear hcop hb4 c0 c1 c2 c3 c4)))
      have hal := (Below.refl w4.heap.size w4).alloc (Nat.le_refl _) (.cells #[.string f.name, .int .i64 f.params, .int .i64 f.regs, .slice S4 f.slots.length sc4, .slice BA4 f.bl.length bc4] 25)
      have h35 := HB34.out.trans (hal.mono HB34.out.size)
      have HB5 := Lib.hid (HB3.out.trans (h35.mono HB3.out.size))
      have HV5 := Lib.hid (HV3.out.after h35)
      have HX5 := Lib.hid ((h35.block ab hab3).trans HX3.out)
      have HPS5 := Lib.hid (HPS3.out.below h35)
      have HGB5 := Lib.hid (heap_alloc_new w4 (.cells #[.string f.name, .int .i64 f.params, .int .i64 f.regs, .slice S4 f.slots.length sc4, .slice BA4 f.bl.length bc4] 25))
      have HCO5 := Lib.hid (HCO.out.keep fun g cs E _ hg => hal.block g (Array.getElem?_eq_some_iff.1 hg).1)
      have h3g : W3.heap.size ≤ w4.heap.size := HB34.out.size
      clear hal h35 HCO HB34 HCP
      generalize w4.alloc (.cells #[.string f.name, .int .i64 f.params, .int .i64 f.regs, .slice S4 f.slots.length sc4, .slice BA4 f.bl.length bc4] 25) = W5 at *
      generalize w4.heap.size = gb at *
      have g2 := Go.Joins.cell_of_block HGB5.out 2
      rw [HREG.out] at g2
      have gf := Go.Joins.unfrozen_of_block HGB5.out 2
      have hw3 : w.heap.size ≤ W3.heap.size := HB3.out.size
      go_upto_region 8 with fail
      clear g2 gf
      have HGB6 : Hid ((W5.setCell ⟨gb, 2, none⟩ (.int .i64 ((r : Int) + 1))).heap[gb]? = some (.cells #[.string f.name, .int .i64 f.params, .int .i64 ((r : Int) + 1), .slice S4 f.slots.length sc4, .slice BA4 f.bl.length bc4] 25 (0, 0))) := Lib.hid (heap_set (o := 2) HGB5.out _)
      have HV6 : Hid (FBox (W5.setCell ⟨gb, 2, none⟩ (.int .i64 ((r : Int) + 1))) w.heap.size f ⟨SA, sc, BA, bc, OA, oc, AA, ac⟩) := Lib.hid ((heap_other _ (by omega)).trans HV5.out)
      have HX6 := Lib.hid ((heap_other (W := W5) (r := 2) (.int .i64 ((r : Int) + 1)) (show ab ≠ gb by omega)).trans HX5.out)
      have HPS6 := Lib.hid ((HPS5.out.setCell (p := ⟨gb, 2, none⟩) h3g (.int .i64 ((r : Int) + 1))).more (show W3.heap.size ≤ (W5.setCell ⟨gb, 2, none⟩ (.int .i64 ((r : Int) + 1))).heap.size by rw [World.size_setCell]; have := (Array.getElem?_eq_some_iff.1 HGB5.out).1; omega))
      have HCO6 := Lib.hid (HCO5.out.keep (W' := W5.setCell ⟨gb, 2, none⟩ (.int .i64 ((r : Int) + 1))) fun g cs E hE hg => heap_other _ (tag_ne hg HGB5.out (by rcases hE with (rfl | rfl) | rfl | rfl <;> decide)))
      have HB6 := Lib.hid (HB5.out.setCell (p := ⟨gb, 2, none⟩) (show w.heap.size ≤ gb by omega) (.int .i64 ((r : Int) + 1)))
      clear HGB5 HV5 HX5 HPS5 HCO5 HB5
      generalize W5.setCell ⟨gb, 2, none⟩ (.int .i64 ((r : Int) + 1)) = W6 at *
      have hgb6 : gb < W6.heap.size := (Array.getElem?_eq_some_iff.1 HGB6.out).1
      have hab6 : ab < W6.heap.size := (Array.getElem?_eq_some_iff.1 HX6.out).1
      have hwf6 : w.heap.size < W6.heap.size := HV6.out.lt
      have HIN := Lib.hid (Ints_15 A c ps W6 HPS6.out (by rw [HPL.out]; omega))
      rw [HPL.out] at HIN
      have a0 := Go.Joins.cell_of_block HX6.out 0
      have hml : (ps.length + 1) * 8 ≤ 140737488355328 := by rw [HPL.out]; omega
      have HL8 : Hid ((ps ++ [(-1 : Int)]).length = r + 1) := Lib.hid (by simp [HPL.out])
      go_upto_region 9 with (first
        | (at_builtin; go_loud ((refine wpList_app_one (w := w7.alloc (.cells #[.int .i64 (-1)] 3)) rfl (.tmp 36) (.tmp 37) rfl (l := ps) (r := (-1 : Int)) rfl (HO7.out.alloc _) rfl (heap_alloc_new w7 _) hml (by have := HB67.out.size; simp; omega) ?_); intro v8 w8 ho8 hg8; have hs8 : W6.heap.size ≤ w8.heap.size := (by have h1 := hg8.size; have h2 := HB67.out.size; rw [World.size_alloc] at h1; omega); rw [HL8.out] at ho8; obtain ⟨A8, c8, rfl, -, -⟩ := own_form ho8; have hk8 : ∀ g, g < W6.heap.size → w8.heap[g]? = W6.heap[g]? := fun g hgl => (hg8.block g (by have := HB67.out.size; rw [World.size_alloc]; omega) (fun e => by have := (HO7.out.lt g e.symm).1; omega)).trans ((heap_alloc_lt _ _ (by have := HB67.out.size; omega)).trans (HB67.out.block g hgl)); have hx8 := (hk8 ab hab6).trans HX6.out; have q0 := Go.Joins.cell_of_block hx8 0; have qf := Go.Joins.unfrozen_of_block hx8 0; have HX8 := Lib.hid hx8; have HK8 := Lib.hid hk8; have HO8 := Lib.hid ho8; have HB8 := Lib.hid (((HB6.out.trans (HB67.out.mono HB6.out.size)).alloc (Nat.le_trans HB6.out.size HB67.out.size) (.cells #[.int .i64 (-1)] 3)).grown hg8 (by have := HB67.out.size; have := HB6.out.size; rw [World.size_alloc]; omega) (fun g e => by have := (HO7.out.lt g e).1; have := HB6.out.size; omega)); clear hk8 hx8 ho8 hg8))
        | (go_at_call 15; go_loud ((refine HIN.out.mono ?_; rintro e w7 ⟨A7, c7, rfl, ho7, hb7⟩; have HO7 : Hid (w7.ownsRow W6.heap.size 3 1 (.slice A7 r c7) ps.length (ints ps)) := Lib.hid (by rw [HPL.out]; exact ho7); have HB67 := Lib.hid hb7; clear ho7 hb7))))
      clear a0 q0 qf
      have HX9 : Hid ((w8.setCell ⟨ab, 0, none⟩ (.slice A8 (r + 1) c8)).heap[ab]? = some (.cells #[.slice A8 (r + 1) c8, .int .i64 wd] 29 (0, 0))) := Lib.hid (heap_set (o := 0) HX8.out _)
      have HK9 : Hid (∀ g, g < W6.heap.size → g ≠ ab → (w8.setCell ⟨ab, 0, none⟩ (.slice A8 (r + 1) c8)).heap[g]? = W6.heap[g]?) := Lib.hid fun g hg hne => (heap_other _ hne).trans (HK8.out g hg)
      have HO9 : Hid ((w8.setCell ⟨ab, 0, none⟩ (.slice A8 (r + 1) c8)).ownsRow W6.heap.size 3 1 (.slice A8 (r + 1) c8) (r + 1) (ints (ps ++ [-1]))) := Lib.hid (own_same HO8.out fun g e => heap_other _ (by have := (HO8.out.lt g e).1; omega))
      have HB9 := Lib.hid (HB8.out.setCell (p := ⟨ab, 0, none⟩) (show w.heap.size ≤ ab by omega) (.slice A8 (r + 1) c8))
      have h68 : W6.heap.size ≤ (w8.setCell ⟨ab, 0, none⟩ (.slice A8 (r + 1) c8)).heap.size := by
        rw [World.size_setCell]
        exact hs8
      clear HX8 HK8 HO8 HB8 HO7 HB67 HIN
      generalize w8.setCell ⟨ab, 0, none⟩ (.slice A8 (r + 1) c8) = W9 at *
      have HGB9 := Lib.hid ((HK9.out gb hgb6 (by omega)).trans HGB6.out)
      have HV9 : Hid (FBox W9 w.heap.size f ⟨SA, sc, BA, bc, OA, oc, AA, ac⟩) := Lib.hid ((HK9.out w.heap.size hwf6 (by omega)).trans HV6.out)
      have HC9 : Hid (Calls Tryz.prog 16 #[.agg #[.string f.name, .int .i64 f.params, .int .i64 ((r : Int) + 1), .slice S4 f.slots.length sc4, .slice BA4 f.bl.length bc4], .agg #[.slice A8 (r + 1) c8, .int .i64 wd]] W9 fun e w' => e = .returned (.int .i64 0) ∧ Below W9.heap.size W9 w') := Lib.hid (by
        obtain ⟨OA9, oc9, AA9, ac9, hfn9⟩ := (HCO6.out.keep fun g cs E hE hg => HK9.out g (Array.getElem?_eq_some_iff.1 hg).1 (tag_ne hg HX6.out (by rcases hE with (rfl | rfl) | rfl | rfl <;> decide))).fn sc4 bc4
        have h9 := HCM.out (by omega) _ W9 A8 c8 (HMO.out hlt W9 _ HB9.out hfn9) (Rd.of_own HO9.out)
        unfold fnV moreF at h9
        simp only at h9
        rw [HREG.out] at h9
        exact h9)
      have g0 := Go.Joins.cell_of_block HGB9.out 0
      have g1 := Go.Joins.cell_of_block HGB9.out 1
      have g2 := Go.Joins.cell_of_block HGB9.out 2
      have g3 := Go.Joins.cell_of_block HGB9.out 3
      have g4 := Go.Joins.cell_of_block HGB9.out 4
      have a0 := Go.Joins.cell_of_block HX9.out 0
      have a1 := Go.Joins.cell_of_block HX9.out 1
      go_upto_region 11 with (go_at_call 16; go_loud ((refine HC9.out.mono ?_; rintro e w10 ⟨rfl, hb10⟩; have HB910 := Lib.hid hb10; clear hb10)))
      clear g0 g1 g2 g3 g4 a0 a1
      have hab9 : ab < W9.heap.size := (Array.getElem?_eq_some_iff.1 HX9.out).1
      have hgb9 : gb < W9.heap.size := (Array.getElem?_eq_some_iff.1 HGB9.out).1
      have HX10 := Lib.hid ((HB910.out.block ab hab9).trans HX9.out)
      have HGB10 := Lib.hid ((HB910.out.block gb hgb9).trans HGB9.out)
      have HV10 := Lib.hid (HV9.out.after HB910.out)
      have HO10 := Lib.hid (own_below_size HO9.out HB910.out)
      have HB10 := Lib.hid (HB9.out.trans (HB910.out.mono HB9.out.size))
      have HK10 : Hid (∀ g, g < W6.heap.size → g ≠ ab → w10.heap[g]? = W6.heap[g]?) := Lib.hid fun g hg hne => (HB910.out.block g (by omega)).trans (HK9.out g hg hne)
      obtain ⟨y, rfl, hy1, hy2, -⟩ := own_at HO10.out (by omega)
      have o0 := HO10.out.cellAt r (by omega)
      rw [show (ints (ps ++ [(-1 : Int)]))[r]? = some (.int .i64 (-1)) by have := HPL.out; subst this; simp [ints]] at o0
      have of' := HO10.out.frozenAt r
      have a0 := Go.Joins.cell_of_block HX10.out 0
      have a1 := Go.Joins.cell_of_block HX10.out 1
      obtain ⟨-, -, c2, -, -⟩ := HV10.out.cells
      rw [HREG.out] at c2
      have hrr : (r : Int) < ((r + 1 : Nat) : Int) := by omega
      go_upto_region 12 with fail
      have hst := (HO10.out.stored r (.int .i64 (16 + wd))).1
      rw [ints_set, show (ps ++ [(-1 : Int)]).set r (16 + wd) = ps ++ [16 + wd] by have := HPL.out; subst this; simp] at hst
      have HO11 := Lib.hid hst
      have HX11 := Lib.hid ((heap_other (W := w10) (r := r) (.int .i64 (16 + wd)) (show ab ≠ y by omega)).trans HX10.out)
      have HGB11 := Lib.hid ((heap_other (W := w10) (r := r) (.int .i64 (16 + wd)) (show gb ≠ y by omega)).trans HGB10.out)
      have HB11 := Lib.hid (HB10.out.setCell (p := ⟨y, r, none⟩) (show w.heap.size ≤ y by omega) (.int .i64 (16 + wd)))
      have HK11 : Hid (∀ g, g < W6.heap.size → g ≠ ab → (w10.setCell ⟨y, r, none⟩ (.int .i64 (16 + wd))).heap[g]? = W6.heap[g]?) := Lib.hid fun g hg hne => (heap_other _ (by omega)).trans (HK10.out g hg hne)
      clear hst o0 of' a0 a1 c2 HX10 HGB10 HV10 HO10 HB10 HK10 HB910 HC9 HV9 HGB9 HX9 HK9 HO9 HB9
      generalize w10.setCell ⟨y, r, none⟩ (.int .i64 (16 + wd)) = W11 at *
      have HC11 : Hid (Calls Tryz.prog 16 #[.agg #[.string f.name, .int .i64 f.params, .int .i64 ((r : Int) + 1), .slice S4 f.slots.length sc4, .slice BA4 f.bl.length bc4], .agg #[.slice (some ⟨y, 0, none⟩) (r + 1) c8, .int .i64 wd]] W11 fun e w' => e = .returned (.int .i64 5) ∧ Below W11.heap.size W11 w') := Lib.hid (by
        obtain ⟨OA9, oc9, AA9, ac9, hfn9⟩ := (HCO6.out.keep fun g cs E hE hg => HK11.out g (Array.getElem?_eq_some_iff.1 hg).1 (tag_ne hg HX6.out (by rcases hE with (rfl | rfl) | rfl | rfl <;> decide))).fn sc4 bc4
        have h9 := HCN.out (by omega) _ W11 (some ⟨y, 0, none⟩) c8 (HMO.out hlt W11 _ HB11.out hfn9) (Rd.of_own HO11.out)
        unfold fnV moreF at h9
        simp only at h9
        rw [HREG.out] at h9
        exact h9)
      have g0 := Go.Joins.cell_of_block HGB11.out 0
      have g1 := Go.Joins.cell_of_block HGB11.out 1
      have g2 := Go.Joins.cell_of_block HGB11.out 2
      have g3 := Go.Joins.cell_of_block HGB11.out 3
      have g4 := Go.Joins.cell_of_block HGB11.out 4
      have a0 := Go.Joins.cell_of_block HX11.out 0
      have a1 := Go.Joins.cell_of_block HX11.out 1
      go_wp2_with (go_at_call 16; go_loud ((refine HC11.out.mono ?_; rintro e w12 ⟨rfl, hb12⟩; have HB12 := Lib.hid (HB11.out.trans (hb12.mono HB11.out.size)); clear hb12)))
      go_ret
      exact ⟨rfl, HB12.out⟩
    · have hge : (4096 : Int) ≤ (r : Int) := by omega
      go_wp2_with fail
      go_ret
      exact ⟨rfl, HB3.out⟩
end Go.Proofs.YthgbmhpfblgjcaaGreatDoor.fl
