/-
  The walk of the law AllocKeeps. Condition: the function stands.
-/
import Derived.Test.YthgbmhpfblgjcaaGreatDoorAlM
import Derived.Test.YthgbmhpfblgjcaaGreatDoorReg
set_option linter.unusedVariables false
set_option linter.unusedSimpArgs false
namespace Go.Proofs.YthgbmhpfblgjcaaGreatDoor.fl
open Go.RowKit Go.Shelf
open M T ty
set_option linter.unusedVariables false
set_option maxRecDepth 20000 in
set_option maxHeartbeats 32000000 in
theorem keeps_law (hworks : ∀ w, Tabs w → Calls Tryz.prog 6 #[] w fun e w' => e = .returned (.bool true) ∧ Below w.heap.size w w') (f : Fn) (L : FLay) (w : World) (h : Lies w f L) :
    Calls Tryz.prog 3 #[fnV f L] w fun e w' => e = .returned (.bool true) ∧ Below w.heap.size w w' := by
  have HAL : Hid (Below w.heap.size w (w.alloc (FObj f L))) := Lib.hid ((Below.refl _ _).alloc (Nat.le_refl _) _)
  have HLI := Lib.hid (fun W (hW : Below w.heap.size w W) => h.after hW)
  have HWK := Lib.hid (hworks _ (h.after HAL.out).tabs)
  have HV : Hid (FBox (w.alloc (FObj f L)) w.heap.size f L) := Lib.hid (heap_alloc_new w _)
  cases hok : fnB 4611686018427387904 f with
  | false =>
    have HAS := Lib.hid (fun W (hW : Below w.heap.size w W) => Assign_no f L W (HLI.out W hW) hok)
    clear h hok
    obtain ⟨SA, sc, BA, bc, OA, oc, AA, ac⟩ := L
    unfold fnV at HAS ⊢
    unfold FObj at HAL HWK HV
    simp only at HAL HWK HV HAS ⊢
    go_enter Tryz.func3, Tryz.ntmps3
    go_wp2_with (first
      | (go_at_call 7; go_loud ((refine (HAS.out _ HB1.out).mono ?_; rintro e w2 ⟨rfl, hb2⟩; have HB2 := Lib.hid (HB1.out.trans (hb2.mono HB1.out.size)); clear hb2)))
      | (go_at_call 6; go_loud ((refine HWK.out.mono ?_; rintro e w1 ⟨rfl, hb1⟩; obtain ⟨c0, c1, c2, c3, c4⟩ := (HV.out.after hb1).cells; have HB1 := Lib.hid (HAL.out.trans (hb1.mono HAL.out.size)); clear hb1))))
    go_ret
    exact ⟨rfl, HB2.out.alloc HB2.out.size _⟩
  | true =>
    have hst0 := h.stands hok
    have hreg := hst0.reg
    have hgd := hst0.good
    generalize f.regs.toNat = r at *
    have hr4 := hst0.r4
    have hrI : (r : Int) ≤ 4096 := by omega
    have hbl4 : f.bl.length ≤ 4096 := hgd.b4
    have hbl5 : (f.bl.length : Int) ≤ 4096 := by omega
    have HG := Lib.hid hgd
    have HST := Lib.hid (fun W (hW : Below w.heap.size w W) => hst0.after hW)
    have HAS := Lib.hid (fun W (hW : Below w.heap.size w W) => Assign_7 f L r W (HST.out W hW))
    have HAC := Lib.hid (fun W (hW : Below w.heap.size w W) => Across_8 f L r W (HST.out W hW))
    have HCL := Lib.hid (fun W (hW : Below w.heap.size w W) => Clash_9x f L r W (HST.out W hW))
    have HAN := Lib.hid (fun W (hW : Below w.heap.size w W) => Analyze_10 f L r W (HST.out W hW))
    have HLV := Lib.hid (fun W (hW : Below w.heap.size w W) => Live_11 f L r W (HST.out W hW))
    have HBT := Lib.hid (fun W (hW : Below w.heap.size w W) (b : Nat) (x : Bl) (hx : f.bl[b]? = some x) (hk : x.ex.k = 4) hrc => Between_12 f L r W (HST.out W hW) (b := b) (x := x) hx hk hrc)
    have HREG := Lib.hid hreg
    clear h hok hst0 hreg hgd HLI
    obtain ⟨SA, sc, BA, bc, OA, oc, AA, ac⟩ := L
    unfold fnV at HAS HAC HCL HAN HLV HBT ⊢
    unfold AssignP at HAS
    unfold FObj at HAL HWK HV
    simp only at HAL HWK HV HAS HAC HCL HAN HLV HBT ⊢
    go_enter Tryz.func3, Tryz.ntmps3
    go_upto_region 6 with (first
      | (go_at_call 7; go_loud ((refine (HAS.out _ HB1.out).mono ?_; rintro e w2 ⟨rc, s, A, c, rfl, hps, hfo, hli, hct, hb2⟩; have HPS := Lib.hid hps; have HFO := Lib.hid hfo; have HLI := Lib.hid hli; have HCT := Lib.hid hct; have HV2 := Lib.hid (HV1.out.after hb2); have HB2 := Lib.hid (HB1.out.trans (hb2.mono HB1.out.size)); clear hps hfo hli hct hb2 c0 c1 c2 c3 c4)))
      | (go_at_call 6; go_loud ((refine HWK.out.mono ?_; rintro e w1 ⟨rfl, hb1⟩; have HV1 := Lib.hid (HV.out.after hb1); obtain ⟨c0, c1, c2, c3, c4⟩ := (HV.out.after hb1).cells; have HB1 := Lib.hid (HAL.out.trans (hb1.mono HAL.out.size)); clear hb1))))
    have HALL : Hid (AllR f rc s r (asgK f rc s r r).1 r) := Lib.hid (asgK_right hr4 HCT.out)
    have HPL : Hid ((asgK f rc s r r).1.length = r) := Lib.hid (asgK_in HCT.out).1.1
    have HBLK : Hid (∀ x ∈ f.bl, BlOk r x) := Lib.hid (by have h1 := HG.out.blOk; rw [HREG.out, Int.toNat_natCast] at h1; exact h1)
    have HINS : Hid (InsOk r s) := Lib.hid (Lives.ok HBLK.out HLI.out).1
    have HKA := Lib.hid (keeps_across HG.out hr4 HREG.out HINS.out HFO.out HALL.out)
    have HKC : Hid (∀ a : Nat, a < r → ∀ q ∈ clK f rc s a, 0 ≤ q ∧ q < (r : Int) ∧ atP (asgK f rc s r r).1 a ≠ atP (asgK f rc s r r).1 q) := Lib.hid fun a ha => keeps_clash HG.out hr4 HINS.out HFO.out HCT.out HALL.out ha
    have HKL : Hid (∀ t ∈ anl f rc s r f.bl.length, ∀ x, f.bl[t.1]? = some x → ∀ q ∈ liveIn rc s x.ex.to.toNat, 0 ≤ q ∧ q < (r : Int) ∧ (q ≠ x.ex.d → 4 ≤ atP (asgK f rc s r r).1 q)) := Lib.hid fun t ht x hx => keeps_live HG.out hr4 HINS.out HFO.out HALL.out ht hx
    have HKK : Hid (∀ t ∈ anl f rc s r f.bl.length, ∀ x, f.bl[t.1]? = some x → ∀ q ∈ t.2.1, 0 ≤ q ∧ q < (r : Int) ∧ 4 ≤ atP (asgK f rc s r r).1 q ∧ ∀ p ∈ trues (btwOf f.bl x.ex r) r, 0 ≤ p ∧ p < (r : Int) ∧ (p ≠ q → q ∉ t.2.2 → 16 ≤ atP (asgK f rc s r r).1 q → atP (asgK f rc s r r).1 p ≠ atP (asgK f rc s r r).1 q)) := Lib.hid fun t ht x hx => keeps_kept HG.out hr4 HINS.out HFO.out HALL.out ht hx
    have hal3 := (Below.refl w2.heap.size w2).alloc (Nat.le_refl _) (.cells #[.slice A r c, .int .i64 ((asgK f rc s r r).2 : Int)] 29)
    have HB3 := Lib.hid (HB2.out.trans (hal3.mono HB2.out.size))
    have HV3 := Lib.hid (HV2.out.after hal3)
    have HPS3 := Lib.hid (((HPS.out.rd (B := w2.heap.size) fun k hk => hk.2).below hal3).more hal3.size)
    have HX3 := Lib.hid (heap_alloc_new w2 (.cells #[.slice A r c, .int .i64 ((asgK f rc s r r).2 : Int)] 29))
    clear hal3 HPS HCT HALL HV2 HAS HWK HAL HV HV1 HB1
    generalize (asgK f rc s r r).1 = ps at *
    generalize ((asgK f rc s r r).2 : Int) = wd at *
    generalize w2.alloc (.cells #[.slice A r c, .int .i64 wd] 29) = W3 at *
    generalize w2.heap.size = ab at *
    obtain ⟨c0, c1, c2, c3, c4⟩ := HV3.out.cells
    go_upto_region 9 with (first
      | (go_at_call 10; go_loud ((refine (HAN.out _ HB9.out).mono ?_; rintro e w10 ⟨rc10, s10, v10, xs, rfl, how, htw, hfo10, hli10, hb10⟩; have HOW := Lib.hid how; have HTW := Lib.hid htw; have HF10 := Lib.hid hfo10; have HL10 := Lib.hid hli10; have HB910 := Lib.hid hb10; have HV10 := Lib.hid (HV9.out.after hb10); have HB10 := Lib.hid (HB9.out.trans (hb10.mono HB9.out.size)); clear how htw hfo10 hli10 hb10 c0 c1 c2 c3 c4)))
      | (go_at_call 9; go_loud ((refine (HCL.out _ HB8.out).mono ?_; rintro e w9 ⟨rc9, s9, g, Ac, cc, rfl, hrows, hfo9, hli9, -, hb9⟩; have HROWS := Lib.hid hrows; have HF9 := Lib.hid hfo9; have HL9 := Lib.hid hli9; have HB89 := Lib.hid hb9; have HV9 := Lib.hid (HV8.out.after hb9); have HB9 := Lib.hid (HB8.out.trans (hb9.mono HB8.out.size)); clear hrows hfo9 hli9 hb9 c0 c1 c2 c3 c4; obtain ⟨c0, c1, c2, c3, c4⟩ := HV9.out.cells)))
      | (go_at_call 8; go_loud ((refine (HAC.out _ HB3.out).mono ?_; rintro e w8 ⟨rc8, s8, v8, rfl, hv8, hfo8, hli8, hb8⟩; have HI8 := Lib.hid hv8; have HF8 := Lib.hid hfo8; have HL8 := Lib.hid hli8; have HB38 := Lib.hid hb8; have HV8 := Lib.hid (HV3.out.after hb8); have HB8 := Lib.hid (HB3.out.trans (hb8.mono HB3.out.size)); clear hv8 hfo8 hli8 hb8 c0 c1 c2 c3 c4; obtain ⟨c0, c1, c2, c3, c4⟩ := HV8.out.cells))))
    obtain rfl := HFO.out.unique HF8.out
    obtain rfl := HLI.out.unique HL8.out
    obtain rfl := HFO.out.unique HF9.out
    obtain rfl := HLI.out.unique HL9.out
    obtain rfl := HFO.out.unique HF10.out
    obtain rfl := HLI.out.unique HL10.out
    obtain ⟨A8, c8, rfl, ho8⟩ := HI8.out
    obtain ⟨AS, cs, rfl, -, -⟩ := own_form HOW.out
    have h810 : Below w8.heap.size w8 w10 := HB89.out.trans (HB910.out.mono HB89.out.size)
    have h310 : Below W3.heap.size W3 w10 := HB38.out.trans (h810.mono HB38.out.size)
    have HPA := Lib.hid ((HPS3.out.below h310).more h310.size)
    have HXA := Lib.hid ((h310.block ab (Array.getElem?_eq_some_iff.1 HX3.out).1).trans HX3.out)
    have HRA := Lib.hid ((((RdP.of_own ho8).rd (B := w8.heap.size) fun k hk => hk.2).below h810).more h810.size)
    have HRC : Hid (RowsP w10 (fun k => k < w10.heap.size) (some ⟨g, 0, none⟩) ((List.range r).map (clK f rc s)) Ac cc) := Lib.hid (HROWS.out.keep fun k hk => ⟨by have := HB910.out.size; omega, HB910.out.block k hk.2⟩)
    have HRS := Lib.hid ((rdp_own_any HOW.out).rd (B := w10.heap.size) fun k hk => hk.2)
    have htl : (anl f rc s r f.bl.length).length ≤ 4096 := Nat.le_trans (anl_len _ _ _ _ _) hbl4
    have HTM : Hid (∀ t ∈ anl f rc s r f.bl.length, ∃ x, f.bl[t.1]? = some x ∧ rc[t.1]? = some true ∧ x.ex.k = 4 ∧ t.2.1 = less (liveIn rc s x.ex.els.toNat) x.ex.d ∧ t.2.2 = among t.2.1 (btwOf f.bl x.ex r)) := Lib.hid fun t ht => anl_mem ht
    have hlal : (list (across f.bl rc s)).length ≤ 4096 := list_len _
    have HFX : Hid (∀ W, Below w10.heap.size w10 W → FBox W w.heap.size f ⟨SA, sc, BA, bc, OA, oc, AA, ac⟩) := Lib.hid fun W hW => HV10.out.after hW
    have HAX : Hid (∀ W, Below w10.heap.size w10 W → W.heap[ab]? = some (.cells #[.slice A r c, .int .i64 wd] 29 (0, 0))) := Lib.hid fun W hW => (hW.block ab (Array.getElem?_eq_some_iff.1 HXA.out).1).trans HXA.out
    obtain ⟨-, -, c2, -, -⟩ := HV10.out.cells
    rw [HREG.out] at c2
    have a0 := Go.Joins.cell_of_block HXA.out 0
    clear h810 h310 ho8 HF8 HF9 HF10 HL8 HL9 HL10 HI8 HOW HROWS HPS3 HX3 HV3 HV8 HV9 HAC HCL HAN HB38 HB89 HB910 HB8 HB9 HB3 HB2
    generalize list (across f.bl rc s) = la at *
    generalize hts : anl f rc s r f.bl.length = ts at *
    have HTS := Lib.hid hts
    clear hts
    have hlaI : (la.length : Int) ≤ 4096 := by omega
    have htlI : (ts.length : Int) ≤ 4096 := by omega
    go_wp2_with fail
    clear c2 a0
    go_loopg [83] la.length (fun N t wr => ∃ j, j ≤ la.length ∧ N = la.length - j ∧ t = .int .i64 j ∧ Below w10.heap.size w10 wr)
    case atStart => exact ⟨0, by omega, rfl, rfl, Below.refl _ _⟩
    case round =>
      obtain ⟨j, hj, rfl, rfl, hb⟩ := hrel
      by_cases hlj : j < la.length
      · as_aux_lemma =>
        have hljI : (j : Int) < (la.length : Int) := by omega
        obtain ⟨ad, p, x, rfl, hx, hp, -, d0⟩ := rd_int (HRA.out.below hb) hlj
        obtain ⟨x0, x1, x4⟩ := HKA.out x (List.mem_of_getElem? hx)
        obtain ⟨q, rfl⟩ := Int.eq_ofNat_of_zero_le x0
        have hqr : q < r := by omega
        obtain ⟨ad2, p2, y, rfl, hy, hp2, -, e0⟩ := rd_int (HPA.out.below hb) (k := q) (by rw [HPL.out]; exact hqr)
        rw [atP_get hy] at x4
        obtain ⟨-, -, c2, -, -⟩ := (HFX.out _ hb).cells
        rw [HREG.out] at c2
        have a0 := Go.Joins.cell_of_block (HAX.out _ hb) 0
        have HB := Lib.hid hb
        clear hb hx hy
        go_wp2_with fail
        go_roundg (la.length - (j + 1))
        case measure => omega
        case rel => exact ⟨j + 1, by omega, rfl, by go_num, HB.out⟩
      · as_aux_lemma =>
        obtain rfl : j = la.length := by omega
        have HB := Lib.hid hb
        clear hb
        go_wp2_with fail
        go_loopg [106] r (fun N t wr => ∃ i, i ≤ r ∧ N = r - i ∧ t = .int .i64 i ∧ Below w10.heap.size w10 wr)
        case atStart => exact ⟨0, by omega, rfl, rfl, HB.out⟩
        case round =>
          obtain ⟨i, hi, rfl, rfl, hb⟩ := hrel
          clear HB
          by_cases hlt : i < r
          · as_aux_lemma =>
            have hltI : (i : Int) < (r : Int) := by omega
            have hrw := HRC.out.keep (P' := fun k => k < w10.heap.size) (W' := wr) (fun k hk => ⟨hk, hb.block k hk⟩)
            obtain ⟨adg, eg, -, hcg⟩ := hrw.row (by simp; omega)
            obtain rfl := Option.some.inj eg
            have hc9 := hcg i (clK f rc s i) (by rw [List.getElem?_map, List.getElem?_range hlt]; rfl)
            rw [add_none] at hc9
            have HCR := Lib.hid ((HRC.out.rd i (clK f rc s i) (by rw [List.getElem?_map, List.getElem?_range hlt]; rfl)).rd (B := w10.heap.size) fun k hk => hk)
            have hclen : (clK f rc s i).length ≤ 4096 := list_len _
            have hclI : ((clK f rc s i).length : Int) ≤ 4096 := by omega
            have HKI := Lib.hid (HKC.out i hlt)
            clear hrw hcg
            generalize Ac i = Ar at *
            generalize cc i = cr at *
            generalize clK f rc s i = ci at *
            have HB := Lib.hid hb
            clear hb
            go_wp2_with fail
            clear hc9
            go_loopg [114] ci.length (fun N t wr => ∃ j, j ≤ ci.length ∧ N = ci.length - j ∧ t = .int .i64 j ∧ Below w10.heap.size w10 wr)
            case atStart => exact ⟨0, by omega, rfl, rfl, HB.out⟩
            case round =>
              obtain ⟨j, hj, rfl, rfl, hb⟩ := hrel
              clear HB
              by_cases hlj : j < ci.length
              · as_aux_lemma =>
                have hljI : (j : Int) < (ci.length : Int) := by omega
                obtain ⟨ad, p, x, rfl, hx, hp, -, d0⟩ := rd_int (HCR.out.below hb) hlj
                obtain ⟨x0, x1, x2⟩ := HKI.out x (List.mem_of_getElem? hx)
                obtain ⟨q, rfl⟩ := Int.eq_ofNat_of_zero_le x0
                have hqr : q < r := by omega
                obtain ⟨ad2, p2, y, rfl, hy, hp2, -, e0⟩ := rd_int (HPA.out.below hb) (k := i) (by rw [HPL.out]; exact hlt)
                obtain ⟨ad3, p3, z, e3, hz, hp3, -, e1⟩ := rd_int (HPA.out.below hb) (k := q) (by rw [HPL.out]; exact hqr)
                obtain rfl := Option.some.inj e3
                rw [atP_get hy, atP_get hz] at x2
                have hne : (y == z) = false := by simpa using x2
                obtain ⟨-, -, c2, -, -⟩ := (HFX.out _ hb).cells
                rw [HREG.out] at c2
                have a0 := Go.Joins.cell_of_block (HAX.out _ hb) 0
                have HB := Lib.hid hb
                clear hb hx hy hz x2 e3
                go_wp2_with fail
                go_quiet (fail)
                have HB2 := Lib.hid (below_drewN' HB.out nq)
                go_wp2_with fail
                go_roundg (ci.length - (j + 1))
                case measure => omega
                case rel => exact ⟨j + 1, by omega, rfl, by go_num, HB2.out⟩
              · as_aux_lemma =>
                obtain rfl : j = ci.length := by omega
                have HB := Lib.hid hb
                clear hb
                go_wp2_with fail
                go_roundg (r - (i + 1))
                case measure => omega
                case rel => exact ⟨i + 1, by omega, rfl, by go_num, HB.out⟩
          · as_aux_lemma =>
            obtain rfl : r = i := by omega
            have HBR := Lib.hid hb
            have HBX := Lib.hid (HB10.out.trans (hb.mono HB10.out.size))
            have HVR := Lib.hid (HFX.out _ hb)
            have h10r := hb.size
            clear hb
            obtain ⟨c0, c1, c2, c3, c4⟩ := HVR.out.cells
            go_upto_region 28 with (go_at_call 11; go_loud ((refine (HLV.out _ HBX.out).mono ?_; rintro e w11 ⟨rc11, s11, gi, gq, Ai, ki, Ao, co, rfl, hin, -, hfo11, hli11, hb11⟩; have HIN := Lib.hid hin; have HF11 := Lib.hid hfo11; have HL11 := Lib.hid hli11; have HB11 := Lib.hid hb11; clear hin hfo11 hli11 hb11)))
            obtain rfl := HFO.out.unique HF11.out
            obtain rfl := HLI.out.unique HL11.out
            have hal := (Below.refl w11.heap.size w11).alloc (Nat.le_refl _) (.cells #[.slice (some ⟨gi, 0, none⟩) f.bl.length f.bl.length, .slice (some ⟨gq, 0, none⟩) f.bl.length f.bl.length] 42)
            have h1012 := HBR.out.trans ((HB11.out.trans (hal.mono HB11.out.size)).mono h10r)
            have HB12 := Lib.hid h1012
            have HLB := Lib.hid (heap_alloc_new w11 (.cells #[.slice (some ⟨gi, 0, none⟩) f.bl.length f.bl.length, .slice (some ⟨gq, 0, none⟩) f.bl.length f.bl.length] 42))
            have HRL := Lib.hid (HIN.out.keep (P' := fun k => k < w11.heap.size) (W' := w11.alloc (.cells #[.slice (some ⟨gi, 0, none⟩) f.bl.length f.bl.length, .slice (some ⟨gq, 0, none⟩) f.bl.length f.bl.length] 42)) (fun k hk => ⟨hk.2, hal.block k hk.2⟩))
            clear hal h1012 HIN HF11 HL11 HB11 c0 c1 c2 c3 c4 HBR HVR HBX HLV
            generalize w11.alloc (.cells #[.slice (some ⟨gi, 0, none⟩) f.bl.length f.bl.length, .slice (some ⟨gq, 0, none⟩) f.bl.length f.bl.length] 42) = W12 at *
            generalize w11.heap.size = lb at *
            obtain ⟨-, -, -, -, c4⟩ := (HFX.out _ HB12.out).cells
            have l0 := Go.Joins.cell_of_block HLB.out 0
            have hlbl : lb < W12.heap.size := (Array.getElem?_eq_some_iff.1 HLB.out).1
            go_wp2_with fail
            clear c4 l0
            go_loopg [159] ts.length (fun N t wr => ∃ n, n ≤ ts.length ∧ N = ts.length - n ∧ t = .int .i64 n ∧ Below W12.heap.size W12 wr)
            case atStart => exact ⟨0, by omega, rfl, rfl, Below.refl _ _⟩
            case round =>
              obtain ⟨n, hn, rfl, rfl, hbt⟩ := hrel
              have hb := HB12.out.trans (hbt.mono HB12.out.size)
              by_cases hltn : n < ts.length
              · as_aux_lemma =>
                have hltnI : (n : Int) < (ts.length : Int) := by omega
                have htw : TwsAt wr xs ts := HTW.out.keep fun k cs hk => hb.block k (Array.getElem?_eq_some_iff.1 hk).1
                obtain ⟨adS, p, t, A1, k1, A2, k2, rfl, ht, hp, hpl, g0, g1, g2, hr1, hr2⟩ := tw_at (HRS.out.below hb) htw hltn
                have htm := List.mem_of_getElem? ht
                obtain ⟨x, hx, hrct, hk4, hkept, hrisk⟩ := HTM.out t htm
                have HKLt := Lib.hid (HKL.out t htm x hx)
                have HKKt := Lib.hid (HKK.out t htm x hx)
                have hkl9 : t.2.1.length ≤ 4096 := by rw [hkept]; exact Nat.le_trans (less_len _ _) (liveIn_len _ _ _)
                have hrl9 : t.2.2.length ≤ 4096 := by rw [hrisk]; exact Nat.le_trans (among_len _ _) hkl9
                have HR1 := Lib.hid hr1.rd
                have HR2 := Lib.hid hr2.rd
                clear htw ht htm hkept hrisk hr1 hr2
                generalize t.2.1 = kept at *
                generalize t.2.2 = risky at *
                generalize t.1 = tb at *
                have hbl : tb < f.bl.length := (List.getElem?_eq_some_iff.1 hx).1
                have hblI : (tb : Int) < (f.bl.length : Int) := by omega
                have hkI : (kept.length : Int) ≤ 4096 := by omega
                have HX := Lib.hid hx
                have HK4 := Lib.hid hk4
                have HRCT := Lib.hid hrct
                have HBW := Lib.hid (HB10.out.trans (hb.mono HB10.out.size))
                have hh10 := hb.size
                have hh12 := hbt.size
                have HBI := Lib.hid hbt
                clear hb hbt hx hk4 hrct
                go_upto_region 33 with fail
                clear g0 g1 g2 hpl
                have hal := (Below.refl wr.heap.size wr).alloc (Nat.le_refl _) (.cells #[.int .i64 (tb : Int), .slice A1 kept.length k1, .slice A2 risky.length k2] 46)
                have HTB := Lib.hid (heap_alloc_new wr (.cells #[.int .i64 (tb : Int), .slice A1 kept.length k1, .slice A2 risky.length k2] 46))
                have HBI3 := Lib.hid (HBI.out.trans (hal.mono hh12))
                have HBW3 := Lib.hid (HBW.out.trans (hal.mono HBW.out.size))
                have HR13 := Lib.hid ((HR1.out.below hal).more hal.size)
                have HR23 := Lib.hid ((HR2.out.below hal).more hal.size)
                clear hal HBI HBW HR1 HR2
                generalize wr.alloc (.cells #[.int .i64 (tb : Int), .slice A1 kept.length k1, .slice A2 risky.length k2] 46) = W13 at *
                generalize wr.heap.size = xb at *
                have HF13 := Lib.hid (HFX.out W13 (HB12.out.trans (HBI3.out.mono HB12.out.size)))
                have hxb13 : xb < W13.heap.size := (Array.getElem?_eq_some_iff.1 HTB.out).1
                obtain ⟨c0, c1, c2, c3, c4⟩ := HF13.out.cells
                have z0 := Go.Joins.cell_of_block HTB.out 0
                go_upto_region 34 with (go_at_call 12; go_loud ((refine (HBT.out W13 HBW3.out tb x HX.out HK4.out (fun rc' h => by rw [← HFO.out.unique h]; exact HRCT.out)).mono ?_; rintro e w14 ⟨v22, out, rfl, hbo, hv22, hb14⟩; have HBO := Lib.hid hbo; have HV22 := Lib.hid hv22; have HB14 := Lib.hid hb14; clear hbo hv22 hb14)))
                obtain rfl := HBO.out.eq
                have hwl9 : (trues (btwOf f.bl x.ex r) r).length ≤ 4096 := Nat.le_trans (trues_len _ _) hr4
                obtain ⟨A22, k22, rfl, ho22⟩ := HV22.out
                have HW22 := Lib.hid ((RdP.of_own ho22).rd (B := w14.heap.size) fun k hk => hk.2)
                have HF14 := Lib.hid (HF13.out.after HB14.out)
                have HTB14 := Lib.hid ((HB14.out.block xb hxb13).trans HTB.out)
                have HR14 := Lib.hid ((HR13.out.below HB14.out).more HB14.out.size)
                have HR24 := Lib.hid ((HR23.out.below HB14.out).more HB14.out.size)
                have HBI4 := Lib.hid (HBI3.out.trans (HB14.out.mono HBI3.out.size))
                have HBW4 := Lib.hid (HBW3.out.trans (HB14.out.mono HBW3.out.size))
                clear ho22 HV22 HBO HB14 HR13 HR23 HBI3 HBW3 HTB HF13 c0 c1 c2 c3 c4 z0 hxb13
                generalize trues (btwOf f.bl x.ex r) r = wl at *
                have hwlI : (wl.length : Int) ≤ 4096 := by omega
                obtain ⟨-, -, -, -, c4⟩ := HF14.out.cells
                have z0 := Go.Joins.cell_of_block HTB14.out 0
                have hxb14 : xb < w14.heap.size := (Array.getElem?_eq_some_iff.1 HTB14.out).1
                obtain ⟨adB, pB, x', rfl, hx', hpB, hpBl, b0, b1, b2, b3, b4, b5⟩ := bl_at (HST.out _ HBW4.out).fn.bls hbl
                obtain rfl := Option.some.inj (HX.out.symm.trans hx')
                clear hx'
                obtain ⟨-, -, t1, tn, -, -, -⟩ := exit_set (HG.out.ex x (List.mem_of_getElem? HX.out)) HK4.out
                obtain ⟨t0, ht0⟩ := Int.eq_ofNat_of_zero_le (show 0 ≤ x.ex.to by omega)
                rw [ht0] at b4 tn HKLt
                rw [Int.toNat_natCast] at HKLt
                have ht0n : t0 < f.bl.length := by omega
                go_upto_region 37 with fail
                clear b0 b1 b2 b3 b4 b5 c4 z0
                have hal := (Below.refl w14.heap.size w14).alloc (Nat.le_refl _) (.cells #[.int .i64 x.ex.k, .int .i64 x.ex.a, .int .i64 x.ex.d, .int .i64 (t0 : Int), .int .i64 x.ex.els] 50)
                have HXB := Lib.hid (heap_alloc_new w14 (.cells #[.int .i64 x.ex.k, .int .i64 x.ex.a, .int .i64 x.ex.d, .int .i64 (t0 : Int), .int .i64 x.ex.els] 50))
                have HTB5 := Lib.hid ((hal.block xb hxb14).trans HTB14.out)
                have HBI5 := Lib.hid (HBI4.out.trans (hal.mono HBI4.out.size))
                have HKP := Lib.hid ((HR14.out.below hal).more hal.size)
                have HRK := Lib.hid ((HR24.out.below hal).more hal.size)
                have HWL := Lib.hid ((HW22.out.below hal).more hal.size)
                clear hal HTB14 HBI4 HBW4 HR14 HR24 HW22 HF14 hxb14 hpBl
                generalize w14.alloc (.cells #[.int .i64 x.ex.k, .int .i64 x.ex.a, .int .i64 x.ex.d, .int .i64 (t0 : Int), .int .i64 x.ex.els] 50) = W15 at *
                generalize w14.heap.size = yb at *
                have HB15 := Lib.hid (HB12.out.trans (HBI5.out.mono HB12.out.size))
                have HFX5 : Hid (∀ W, Below W15.heap.size W15 W → FBox W w.heap.size f ⟨SA, sc, some adB, bc, OA, oc, AA, ac⟩ ∧ W.heap[ab]? = some (.cells #[.slice A r c, .int .i64 wd] 29 (0, 0)) ∧ Rd W w10.heap.size A (ints ps) ∧ W.heap[xb]? = some (.cells #[.int .i64 (tb : Int), .slice A1 kept.length k1, .slice A2 risky.length k2] 46 (0, 0)) ∧ W.heap[yb]? = some (.cells #[.int .i64 x.ex.k, .int .i64 x.ex.a, .int .i64 x.ex.d, .int .i64 (t0 : Int), .int .i64 x.ex.els] 50 (0, 0))) := Lib.hid fun W hW => by
                  have h10 := HB15.out.trans (hW.mono HB15.out.size)
                  exact ⟨HFX.out _ h10, HAX.out _ h10, HPA.out.below h10, (hW.block xb (Array.getElem?_eq_some_iff.1 HTB5.out).1).trans HTB5.out, (hW.block yb (Array.getElem?_eq_some_iff.1 HXB.out).1).trans HXB.out⟩
                have hrl5 := HRL.out.keep (P' := fun k => k < lb) (W' := W15) (fun k hk => ⟨hk, HBI5.out.block k (by omega)⟩)
                obtain ⟨adg, eg, hgb, hcg⟩ := hrl5.row (by simp; omega)
                obtain rfl := Option.some.inj eg
                have hc9 := hcg t0 (liveIn rc s t0) (by rw [List.getElem?_map, List.getElem?_range ht0n]; rfl)
                rw [add_none] at hc9
                have HLR := Lib.hid (((hrl5.rd t0 (liveIn rc s t0) (by rw [List.getElem?_map, List.getElem?_range ht0n]; rfl)).rd (B := lb) fun k hk => hk).more (show lb ≤ W15.heap.size by have := HBI5.out.size; omega))
                have l0 := Go.Joins.cell_of_block ((HBI5.out.block lb hlbl).trans HLB.out) 0
                have y3 := Go.Joins.cell_of_block HXB.out 3
                have hlil : (liveIn rc s t0).length ≤ 4096 := liveIn_len _ _ _
                clear hrl5 hcg hgb
                generalize Ai t0 = Al at *
                generalize ki t0 = cL at *
                generalize liveIn rc s t0 = li at *
                have hliI : (li.length : Int) ≤ 4096 := by omega
                go_wp2_with fail
                clear l0 y3 hc9
                go_loopg [199] li.length (fun N t wr => ∃ j, j ≤ li.length ∧ N = li.length - j ∧ t = .int .i64 j ∧ Below W15.heap.size W15 wr)
                case atStart => exact ⟨0, by omega, rfl, rfl, Below.refl _ _⟩
                case round =>
                  obtain ⟨j, hj, rfl, rfl, hb⟩ := hrel
                  obtain ⟨hfb, hab, hps, htb, hxb⟩ := HFX5.out _ hb
                  by_cases hlj : j < li.length
                  · as_aux_lemma =>
                    have hljI : (j : Int) < (li.length : Int) := by omega
                    obtain ⟨ad, p, x9, rfl, hx9, hp, -, d0⟩ := rd_int (HLR.out.below hb) hlj
                    obtain ⟨x0, x1, x2⟩ := HKLt.out x9 (List.mem_of_getElem? hx9)
                    obtain ⟨q, rfl⟩ := Int.eq_ofNat_of_zero_le x0
                    have hqr : q < r := by omega
                    obtain ⟨ad2, p2, y, rfl, hy, hp2, -, e0⟩ := rd_int hps (k := q) (by rw [HPL.out]; exact hqr)
                    rw [atP_get hy] at x2
                    obtain ⟨-, -, c2, -, -⟩ := hfb.cells
                    rw [HREG.out] at c2
                    have a0 := Go.Joins.cell_of_block hab 0
                    have y2 := Go.Joins.cell_of_block hxb 2
                    have HB := Lib.hid hb
                    clear hb hx9 hy hfb hab hps htb hxb
                    cases hq : ((q : Int) != x.ex.d) with
                    | true =>
                      as_aux_lemma =>
                      have x4 : 4 ≤ y := x2 (by simpa using hq)
                      clear x2
                      go_wp2_with fail
                      go_roundg (li.length - (j + 1))
                      case measure => omega
                      case rel => exact ⟨j + 1, by omega, rfl, by go_num, HB.out⟩
                    | false =>
                      as_aux_lemma =>
                      clear x2
                      go_wp2_with fail
                      go_roundg (li.length - (j + 1))
                      case measure => omega
                      case rel => exact ⟨j + 1, by omega, rfl, by go_num, HB.out⟩
                  · as_aux_lemma =>
                    obtain rfl : j = li.length := by omega
                    have z1 := Go.Joins.cell_of_block htb 1
                    have HB := Lib.hid hb
                    clear hb hfb hab hps htb hxb
                    go_wp2_with fail
                    clear z1
                    go_loopg [229] kept.length (fun N t wr => ∃ j, j ≤ kept.length ∧ N = kept.length - j ∧ t = .int .i64 j ∧ Below W15.heap.size W15 wr)
                    case atStart => exact ⟨0, by omega, rfl, rfl, HB.out⟩
                    case round =>
                      obtain ⟨j, hj, rfl, rfl, hb⟩ := hrel
                      clear HB
                      by_cases hlj : j < kept.length
                      · as_aux_lemma =>
                        have hljI : (j : Int) < (kept.length : Int) := by omega
                        obtain ⟨hfb, hab, hps, htb, hxb⟩ := HFX5.out _ hb
                        obtain ⟨ad, p, x9, rfl, hx9, hp, -, d0⟩ := rd_int (HKP.out.below hb) hlj
                        obtain ⟨x0, x1, x4, hkw⟩ := HKKt.out x9 (List.mem_of_getElem? hx9)
                        obtain ⟨q, rfl⟩ := Int.eq_ofNat_of_zero_le x0
                        have hqr : q < r := by omega
                        obtain ⟨ad2, p2, y, rfl, hy, hp2, -, e0⟩ := rd_int hps (k := q) (by rw [HPL.out]; exact hqr)
                        rw [atP_get hy] at x4 hkw
                        have HY := Lib.hid hy
                        have HKW := Lib.hid hkw
                        obtain ⟨-, -, c2, -, -⟩ := hfb.cells
                        rw [HREG.out] at c2
                        have a0 := Go.Joins.cell_of_block hab 0
                        have HB := Lib.hid hb
                        clear hb hx9 hy hfb hab hps htb hxb hkw
                        go_wp2_with fail
                        clear c2 a0 e0 d0
                        go_loopg [251] wl.length (fun N t wr => ∃ i, i ≤ wl.length ∧ N = wl.length - i ∧ t = .int .i64 i ∧ Below W15.heap.size W15 wr)
                        case atStart => exact ⟨0, by omega, rfl, rfl, HB.out⟩
                        case round =>
                          obtain ⟨i, hi, rfl, rfl, hb⟩ := hrel
                          clear HB
                          by_cases hli2 : i < wl.length
                          · as_aux_lemma =>
                            have hliI : (i : Int) < (wl.length : Int) := by omega
                            obtain ⟨hfb, hab, hps, htb, hxb⟩ := HFX5.out _ hb
                            obtain ⟨ad5, p5, x9, rfl, hx9, hp5, -, d0⟩ := rd_int (HWL.out.below hb) hli2
                            obtain ⟨u0, u1, u2⟩ := HKW.out x9 (List.mem_of_getElem? hx9)
                            obtain ⟨u, rfl⟩ := Int.eq_ofNat_of_zero_le u0
                            have hur : u < r := by omega
                            obtain ⟨ad6, p6, z, e6, hz, hp6, -, f0⟩ := rd_int hps (k := u) (by rw [HPL.out]; exact hur)
                            obtain rfl := Option.some.inj e6
                            rw [atP_get hz] at u2
                            have HRE : Hid (∀ W, Below W15.heap.size W15 W → W.cell? ⟨w.heap.size, 2, none⟩ = some (.int .i64 (r : Int)) ∧ W.cell? ⟨ab, 0, none⟩ = some (.slice (some ad2) r c) ∧ W.cell? ⟨xb, 2, none⟩ = some (.slice A2 risky.length k2) ∧ W.cell? p6 = some (.int .i64 z) ∧ W.cell? p2 = some (.int .i64 y)) := Lib.hid fun W hW => by
                              obtain ⟨hfb, hab, hps, htb, -⟩ := HFX5.out W hW
                              obtain ⟨-, -, c2, -, -⟩ := hfb.cells
                              rw [HREG.out] at c2
                              obtain ⟨ad8, p8, x8, e8, hx8, hp8, -, h8⟩ := rd_int hps (k := u) (by rw [HPL.out]; exact hur)
                              obtain rfl := Option.some.inj e8
                              obtain rfl := Option.some.inj (hz.symm.trans hx8)
                              obtain ⟨ad9, p9, x9, e9, hx9, hp9, -, h9⟩ := rd_int hps (k := q) (by rw [HPL.out]; exact hqr)
                              obtain rfl := Option.some.inj e9
                              obtain rfl := Option.some.inj (HY.out.symm.trans hx9)
                              exact ⟨c2, Go.Joins.cell_of_block hab 0, Go.Joins.cell_of_block htb 2, by rw [← hp6, hp8]; exact h8, by rw [← hp2, hp9]; exact h9⟩
                            have HHS : Hid (∀ W, Below W15.heap.size W15 W → Calls Tryz.prog 13 #[.slice A2 risky.length k2, .int .i64 (q : Int)] W fun e w' => e = .returned (.bool (decide ((q : Int) ∈ risky))) ∧ Below W15.heap.size W15 w') := Lib.hid fun W hW => (Has_13 A2 k2 risky (q : Int) _ W (by simp only [maxLen]; omega) (HRK.out.below hW)).mono fun e w' ⟨h1, h2⟩ => ⟨h1, by rw [h2]; exact hW⟩
                            have huI : (u : Int) < (r : Int) := by omega
                            have hqI : (q : Int) < (r : Int) := by omega
                            have hd2 : decide ((r : Int) ≤ (u : Int)) = false := decide_eq_false (by omega)
                            have hd3 : decide (r ≤ u) = false := decide_eq_false (by omega)
                            have HB := Lib.hid hb
                            clear hb hx9 hz hfb hab hps htb hxb e6 f0
                            cases hq : ((u : Int) != (q : Int)) with
                            | false =>
                              as_aux_lemma =>
                              clear u2
                              go_wp2_with fail
                              refine region_class (C := fun W => Below W15.heap.size W15 W) (by kernel_rfl) (by kernel_rfl) HB.out.drew ?_
                              repeat (first | (refine q_skip (a' := ?_) (by rfl) ?_ ?_; rotate_left; (focus (simp only [Act.put, List.setIfInBounds_toArray, List.set_cons_zero, List.set_cons_succ]; with_reducible rfl))) | (refine q_take (v := ?_) (a' := ?_) (by rfl) (fun W hW => ?_) ?_ ?_; rotate_left 2; (focus (obtain ⟨c2, a0, z2, f0, e0⟩ := HRE.out W hW; unfold Oper.quietAt; go_simp; first | done | (with_reducible rfl) | (with_reducible exact HHS.out W hW) | rfl | exact ⟨rfl, rfl⟩)); (focus (simp only [Act.put, List.setIfInBounds_toArray, List.set_cons_zero, List.set_cons_succ]; with_reducible rfl))))
                              refine q_nil ?_
                              intro w5 h5
                              have H5 := Lib.hid h5
                              clear h5
                              go_wp2_with fail
                              go_roundg (wl.length - (i + 1))
                              case measure => omega
                              case rel => exact ⟨i + 1, by omega, rfl, by go_num, H5.out⟩
                            | true =>
                              as_aux_lemma =>
                              have hun : (u : Int) ≠ (q : Int) := by simpa using hq
                              by_cases hm : (q : Int) ∈ risky
                              · as_aux_lemma =>
                                rw [decide_eq_true hm] at HHS
                                clear u2 hm hun
                                go_wp2_with fail
                                refine region_class (C := fun W => Below W15.heap.size W15 W) (by kernel_rfl) (by kernel_rfl) HB.out.drew ?_
                                repeat (first | (refine q_skip (a' := ?_) (by rfl) ?_ ?_; rotate_left; (focus (simp only [Act.put, List.setIfInBounds_toArray, List.set_cons_zero, List.set_cons_succ]; with_reducible rfl))) | (refine q_take (v := ?_) (a' := ?_) (by rfl) (fun W hW => ?_) ?_ ?_; rotate_left 2; (focus (obtain ⟨c2, a0, z2, f0, e0⟩ := HRE.out W hW; unfold Oper.quietAt; go_simp; first | done | (with_reducible rfl) | (with_reducible exact HHS.out W hW) | rfl | exact ⟨rfl, rfl⟩)); (focus (simp only [Act.put, List.setIfInBounds_toArray, List.set_cons_zero, List.set_cons_succ]; with_reducible rfl))))
                                refine q_nil ?_
                                intro w5 h5
                                have H5 := Lib.hid h5
                                clear h5
                                go_wp2_with fail
                                go_roundg (wl.length - (i + 1))
                                case measure => omega
                                case rel => exact ⟨i + 1, by omega, rfl, by go_num, H5.out⟩
                              · as_aux_lemma =>
                                rw [decide_eq_false hm] at HHS
                                have u3 := u2 hun hm
                                clear u2 hm hun
                                rcases Int.lt_or_le y 16 with h16 | h16
                                · as_aux_lemma =>
                                  have hd4 : decide ((16 : Int) ≤ y) = false := decide_eq_false (by omega)
                                  clear u3
                                  go_wp2_with fail
                                  refine region_class (C := fun W => Below W15.heap.size W15 W) (by kernel_rfl) (by kernel_rfl) HB.out.drew ?_
                                  repeat (first | (refine q_skip (a' := ?_) (by rfl) ?_ ?_; rotate_left; (focus (simp only [Act.put, List.setIfInBounds_toArray, List.set_cons_zero, List.set_cons_succ]; with_reducible rfl))) | (refine q_take (v := ?_) (a' := ?_) (by rfl) (fun W hW => ?_) ?_ ?_; rotate_left 2; (focus (obtain ⟨c2, a0, z2, f0, e0⟩ := HRE.out W hW; unfold Oper.quietAt; go_simp; first | done | (with_reducible rfl) | (with_reducible exact HHS.out W hW) | rfl | exact ⟨rfl, rfl⟩)); (focus (simp only [Act.put, List.setIfInBounds_toArray, List.set_cons_zero, List.set_cons_succ]; with_reducible rfl))))
                                  refine q_nil ?_
                                  intro w5 h5
                                  have H5 := Lib.hid h5
                                  clear h5
                                  go_wp2_with fail
                                  go_roundg (wl.length - (i + 1))
                                  case measure => omega
                                  case rel => exact ⟨i + 1, by omega, rfl, by go_num, H5.out⟩
                                · as_aux_lemma =>
                                  have u4 := u3 h16
                                  have hd4 : decide ((16 : Int) ≤ y) = true := decide_eq_true h16
                                  have hne : (z == y) = false := by simpa using u4
                                  clear u3 u4
                                  go_wp2_with fail
                                  refine region_class (C := fun W => Below W15.heap.size W15 W) (by kernel_rfl) (by kernel_rfl) HB.out.drew ?_
                                  repeat (first | (refine q_skip (a' := ?_) (by rfl) ?_ ?_; rotate_left; (focus (simp only [Act.put, List.setIfInBounds_toArray, List.set_cons_zero, List.set_cons_succ]; with_reducible rfl))) | (refine q_take (v := ?_) (a' := ?_) (by rfl) (fun W hW => ?_) ?_ ?_; rotate_left 2; (focus (obtain ⟨c2, a0, z2, f0, e0⟩ := HRE.out W hW; unfold Oper.quietAt; go_simp; first | done | (with_reducible rfl) | (with_reducible exact HHS.out W hW) | rfl | exact ⟨rfl, rfl⟩)); (focus (simp only [Act.put, List.setIfInBounds_toArray, List.set_cons_zero, List.set_cons_succ]; with_reducible rfl))))
                                  refine q_nil ?_
                                  intro w5 h5
                                  have H5 := Lib.hid h5
                                  clear h5
                                  go_wp2_with fail
                                  go_roundg (wl.length - (i + 1))
                                  case measure => omega
                                  case rel => exact ⟨i + 1, by omega, rfl, by go_num, H5.out⟩
                          · as_aux_lemma =>
                            obtain rfl : i = wl.length := by omega
                            have HB := Lib.hid hb
                            clear hb
                            go_wp2_with fail
                            go_roundg (kept.length - (j + 1))
                            case measure => omega
                            case rel => exact ⟨j + 1, by omega, rfl, by go_num, HB.out⟩
                      · as_aux_lemma =>
                        obtain rfl : j = kept.length := by omega
                        have HB := Lib.hid (HBI5.out.trans (hb.mono HBI5.out.size))
                        clear hb
                        go_wp2_with fail
                        go_roundg (ts.length - (n + 1))
                        case measure => omega
                        case rel => exact ⟨n + 1, by omega, rfl, by go_num, HB.out⟩
              · as_aux_lemma =>
                obtain rfl : n = ts.length := by omega
                have HE := Lib.hid (HB10.out.trans (hb.mono HB10.out.size))
                clear hb hbt
                go_wp2_with fail
                go_ret
                exact ⟨rfl, HE.out⟩
end Go.Proofs.YthgbmhpfblgjcaaGreatDoor.fl
