/-
  The contract of back of package flow. Conditions: two sets and an operation stand; the tables stand.
-/
import Derived.Test.YthgbmhpfblgjcaaGreatDoorFlJb
import Derived.Laws.Tables
set_option linter.unusedVariables false
set_option linter.unusedSimpArgs false
namespace Go.Proofs.YthgbmhpfblgjcaaGreatDoor.fl
open Go.RowKit Go.Shelf
open M T ty
set_option linter.unusedVariables false
/-- a graph under way -/
structure EnvD (w W : World) (gb : Nat) (f : Fn) (L : FLay) (v : Value) (xs : List Value) (ls : List (List Int)) : Prop where
  below : Below w.heap.size w W
  fn : FnAt W w.heap.size f L
  glt : w.heap.size < gb
  blk : W.heap[gb]? = some (.cells #[.string f.name, .int .i64 f.params, .int .i64 f.regs, .slice L.SA f.slots.length L.sc, .slice L.BA f.bl.length L.bc, v, .slice none 0 0] 86 (0, 0))
  own : W.ownsRow (gb + 1) 27 1 v xs.length xs
  lsts : Lsts W (fun g => gb < g ∧ g < W.heap.size ∧ v.ownBlock ≠ some g) xs ls
section
variable {w W W' : World} {gb : Nat} {f : Fn} {L : FLay} {v : Value} {xs : List Value} {ls : List (List Int)}
theorem EnvD.gsz (h : EnvD w W gb f L v xs ls) : gb < W.heap.size := (Array.getElem?_eq_some_iff.1 h.blk).1
theorem EnvD.after (h : EnvD w W gb f L v xs ls) (hb : Below W.heap.size W W') : EnvD w W' gb f L v xs ls :=
  ⟨h.below.trans (hb.mono h.below.size), h.fn.below (hb.mono h.below.size), h.glt, (hb.block _ h.gsz).trans h.blk, own_below_size h.own hb,
    h.lsts.keep fun g hg => ⟨⟨hg.1, Nat.lt_of_lt_of_le hg.2.1 hb.size, hg.2.2⟩, hb.block g hg.2.1⟩⟩
theorem EnvD.step (h : EnvD w W gb f L v xs ls) {w3 : World} {v' : Value} {A : Option Addr} {c : Nat} {l : List Int}
    (ho : w3.ownsRow (gb + 1) 27 1 v' (xs ++ [Value.slice A l.length c]).length (xs ++ [Value.slice A l.length c])) (hg : W.grownBy w3 v.ownBlock) (hv : v'.ownBlock = v.ownBlock ∨ v'.ownBlock = some W.heap.size)
    (hr : RdP W (fun g => gb < g ∧ g < W.heap.size ∧ v.ownBlock ≠ some g) A (ints l)) : EnvD w (w3.setCell ⟨gb, 5, none⟩ v') gb f L v' (xs ++ [Value.slice A l.length c]) (ls ++ [l]) := by
  have hvb : ∀ k, v.ownBlock = some k → gb + 1 ≤ k := fun k hk => (h.own.lt k hk).1
  have e3 : w3.heap[gb]? = W.heap[gb]? := hg.block gb h.gsz (fun e => by have := hvb gb e.symm; omega)
  have hb3 : Below w.heap.size w w3 := h.below.grown hg h.below.size (fun g hg => by have := hvb g hg; have := h.glt; omega)
  refine ⟨hb3.setCell (p := ⟨gb, 5, none⟩) (Nat.le_of_lt h.glt) _, ?_, h.glt, ?_, ?_, ?_⟩
  · exact h.fn.keep (fun p hp => by
      have hlt : p.block < W.heap.size := Nat.lt_of_lt_of_le hp h.below.size
      refine cell_of_heap ((heap_other v' (by have := h.glt; omega)).trans (hg.block _ hlt (fun e => ?_)))
      have := hvb _ e.symm
      have := h.glt
      omega) (Nat.le_refl _)
  · rw [heap_set (o := 5) (e3.trans h.blk) v']
    rfl
  · exact ho.kept (grown_setCell w3 ⟨gb, 5, none⟩ v') (by
      cases hk : v'.ownBlock with
      | none => exact .inl rfl
      | some k => exact .inr (fun e => by have := (ho.lt k hk).1; have := Option.some.inj e; simp at this; omega))
  · have key : ∀ g, (gb < g ∧ g < W.heap.size ∧ v.ownBlock ≠ some g) → (gb < g ∧ g < (w3.setCell ⟨gb, 5, none⟩ v').heap.size ∧ v'.ownBlock ≠ some g) ∧ (w3.setCell ⟨gb, 5, none⟩ v').heap[g]? = W.heap[g]? := fun g hg' => by
      refine ⟨⟨hg'.1, ?_, ?_⟩, (heap_other v' (by omega)).trans (hg.block g hg'.2.1 (fun e => hg'.2.2 e.symm))⟩
      · rw [World.size_setCell]
        exact Nat.lt_of_lt_of_le hg'.2.1 hg.size
      · rcases hv with hv | hv
        · rw [hv]; exact hg'.2.2
        · rw [hv]
          intro e
          have := Option.some.inj e
          omega
    exact (h.lsts.keep key).snoc (hr.keep key)
end
def onceK (l : List Int) (j : Nat) : List Int := once (l.take j)
theorem onceK_succ (l : List Int) (j : Nat) (y : Int) (h : l[j]? = some y) : onceK l (j + 1) = if y ∈ onceK l j then onceK l j else onceK l j ++ [y] := by
  unfold onceK once
  rw [List.take_add_one, h, List.foldl_append]
  rfl
theorem onceK_le (l : List Int) (j : Nat) : (onceK l j).length ≤ j := by
  have := once_len (l.take j) []
  unfold onceK once
  simp at *
  omega
theorem tos_succ {bl : List Bl} {i : Nat} {x : Bl} (h : bl[i]? = some x) : tos (bl.take (i + 1)) = tos (bl.take i) ++ [once (exitTo x.ex)] := by
  unfold tos
  rw [List.take_add_one, h]
  simp
set_option maxRecDepth 20000 in
set_option maxHeartbeats 8000000 in
theorem drawn_51x (f : Fn) (L : FLay) (w : World) (hfa : FnAt w w.heap.size f L) (hK : KeysIn w) (hn : f.name.size ≤ maxLen) (hfit : FnFit f) (hok : fnB 4611686018427387904 f = true) :
    Calls Tryz.prog 51 #[fnV f L] w fun e w' => ∃ gb G rc, e = .returned (.tuple #[.pointer (some ⟨gb, 0, none⟩), .int .i64 0]) ∧ GrAt w' w'.heap.size gb f L G rc ∧ Found (tos f.bl) (-1) 0 rc ∧ w.heap.size < gb ∧ Below w.heap.size w w' ∧ w.heap.size ≤ G.rb := by
  have hgood := good_of hok
  have hcf := CheckFunc_58 f L (w.alloc (.cells #[.string f.name, .int .i64 f.params, .int .i64 f.regs, .slice L.SA f.slots.length L.sc, .slice L.BA f.bl.length L.bc] 25)) (hfa.after ((Below.refl _ _).alloc (Nat.le_refl _) _)) (hK.below ((Below.refl _ _).alloc (Nat.le_refl _) _)) hn hfit
  rw [hok, if_pos rfl] at hcf
  have HCF := Lib.hid hcf
  have HG := Lib.hid hgood
  have HFA := Lib.hid hfa
  have HB0 := Lib.hid ((Below.refl w.heap.size w).alloc (Nat.le_refl _) (.cells #[.string f.name, .int .i64 f.params, .int .i64 f.regs, .slice L.SA f.slots.length L.sc, .slice L.BA f.bl.length L.bc] 25))
  have HV := Lib.hid (heap_alloc_new w (.cells #[.string f.name, .int .i64 f.params, .int .i64 f.regs, .slice L.SA f.slots.length L.sc, .slice L.BA f.bl.length L.bc] 25))
  clear hgood hcf hfa hK hn hfit hok
  obtain ⟨SA, sc, BA, bc, OA, oc, AA, ac⟩ := L
  unfold fnV at HCF ⊢
  simp only at HCF HB0 HV ⊢
  go_enter Tryz.func51, Tryz.ntmps51
  go_wp2_with (go_at_call 58; refine HCF.out.mono ?_; rintro e w1 ⟨rfl, hb1⟩; have hv1 := (hb1.block _ (Array.getElem?_eq_some_iff.1 HV.out).1).trans HV.out; have c0 := Go.Joins.cell_of_block hv1 0; have c1 := Go.Joins.cell_of_block hv1 1; have c2 := Go.Joins.cell_of_block hv1 2; have c3 := Go.Joins.cell_of_block hv1 3; have c4 := Go.Joins.cell_of_block hv1 4; have hws := hb1.size; rw [World.size_alloc] at hws; have hne : w.heap.size ≠ w1.heap.size := (by omega); have hlt : w.heap.size < w1.heap.size := (by omega); have HB1 := Lib.hid (HB0.out.trans (hb1.mono (by simp))); clear hb1)
  have HE0 : Hid (EnvD w (w1.alloc (.cells #[.string f.name, .int .i64 f.params, .int .i64 f.regs, .slice SA f.slots.length sc, .slice BA f.bl.length bc, .slice none 0 0, .slice none 0 0] 86)) w1.heap.size f ⟨SA, sc, BA, bc, OA, oc, AA, ac⟩ (.slice none 0 0) [] []) := Lib.hid
    ⟨HB1.out.alloc HB1.out.size _, HFA.out.below (HB1.out.alloc HB1.out.size _), hlt, heap_alloc_new _ _, ⟨rfl, .inl ⟨rfl, rfl⟩⟩, Lsts.nil⟩
  have hbl4 : (f.bl.length : Int) ≤ 4096 := by have := HG.out.b4; omega
  generalize hgb : w1.heap.size = gb at *
  clear c0 c1 c2 c3 c4 hv1 HV HCF HB0
  go_loopg [24] f.bl.length (fun N t wr => ∃ i v xs, i ≤ f.bl.length ∧ N = f.bl.length - i ∧ t = .int .i64 i ∧ EnvD w wr gb f ⟨SA, sc, BA, bc, OA, oc, AA, ac⟩ v xs (tos (f.bl.take i)))
  case atStart => exact ⟨0, _, [], by omega, rfl, rfl, HE0.out⟩
  case round =>
    obtain ⟨i, v, xs, hi, rfl, rfl, he⟩ := hrel
    have H := Lib.hid he
    clear HE0
    by_cases hlti : i < f.bl.length
    · have hltI : (i : Int) < (f.bl.length : Int) := by omega
      have hbl : BlsAt wr w.heap.size BA f.bl OA oc AA ac := he.fn.bls
      obtain ⟨ad, p, x, rfl, hx, hp, -, a0, a1, a2, a3, a4, a5⟩ := bl_at hbl hlti
      have HX := Lib.hid (fun W => exits_91 x.ex W)
      unfold exV at HX
      have HTS := Lib.hid (tos_succ hx)
      have hxl : xs.length = i := by
        have := he.lsts.len
        rw [tos_len, List.length_take] at this
        omega
      have hal := (Below.refl wr.heap.size wr).alloc (Nat.le_refl _) (.cells #[.slice (OA i) x.ops.length (oc i), .int .i64 x.ex.k, .int .i64 x.ex.a, .int .i64 x.ex.d, .int .i64 x.ex.to, .int .i64 x.ex.els] 52)
      have HA := Lib.hid hal
      clear hbl he hx hal
      have hel := exitTo_len x.ex
      go_wp2_with (go_at_call 91; refine (HX.out _).mono ?_; rintro e w2 ⟨v2, u2, rfl, hv2, hu2, hb2⟩; obtain ⟨A', c', rfl, ho⟩ := hu2; have HR := Lib.hid (Rd.of_own ho); have H2 := Lib.hid ((H.out.after HA.out).after hb2); have hsz : wr.heap.size ≤ w2.heap.size := Nat.le_trans HA.out.size hb2.size; clear hv2 ho hb2)
      generalize hl0 : exitTo x.ex = l at *
      go_loopg [36, 10] l.length (fun N t u wr2 => ∃ j : Nat, j ≤ l.length ∧ N = l.length - j ∧ t = .int .i64 j ∧ Below w2.heap.size w2 wr2 ∧ wr2.ownsRow w2.heap.size 3 1 u (onceK l j).length (ints (onceK l j)))
      case atStart => exact ⟨0, by omega, rfl, rfl, Below.refl _ _, rfl, .inl ⟨rfl, rfl⟩⟩
      case round =>
        obtain ⟨j, hj, rfl, rfl, hb3, ho3⟩ := hrel
        have HB3 := Lib.hid hb3
        have HO3 := Lib.hid ho3
        obtain ⟨A3, c3, rfl, -, -⟩ := own_form ho3
        by_cases hlj : j < l.length
        · have hljI : (j : Int) < (l.length : Int) := by omega
          obtain ⟨ad2, p2, y, rfl, hy, hp2, -, b0⟩ := rd_int (HR.out.below hb3) hlj
          have HS := Lib.hid (onceK_succ l j y hy)
          have hkl := onceK_le l j
          have HCT := Lib.hid (fun W (hW : W = wr) => contains_50 A3 c3 (onceK l j) y wr.heap.size W (by simp only [maxLen]; omega) (by rw [hW]; exact Rd.of_own ho3))
          have hapb : ((onceK l j).length + 1) * 8 ≤ 140737488355328 := by omega
          clear hb3 ho3 hy
          by_cases hm : y ∈ onceK l j
          · rw [if_pos hm] at HS
            rw [decide_eq_true hm] at HCT
            clear hm
            go_wp2_with (go_at_call 50; refine (HCT.out _ rfl).mono ?_; rintro e w4 ⟨rfl, rfl⟩)
            go_roundg (l.length - (j + 1))
            case measure => omega
            case rel => exact ⟨j + 1, by omega, rfl, by go_num, HB3.out, by rw [HS.out]; exact HO3.out⟩
          · rw [if_neg hm] at HS
            rw [decide_eq_false hm] at HCT
            clear hm
            go_wp2_with (first
              | (go_at_call 50; refine (HCT.out _ rfl).mono ?_; rintro e w4 ⟨rfl, rfl⟩)
              | (at_builtin; (refine wpList_app_one (w := w4.alloc (.cells #[.int .i64 y] 3)) rfl (.tmp 44) (.tmp 46) rfl (r := y) rfl (HO3.out.alloc _) rfl (heap_alloc_new w4 _) hapb (by have := HB3.out.size; simp; omega) ?_); intro v1 w5 ho1 hg1))
            have hb1 : Below w2.heap.size w2 w5 := (HB3.out.alloc HB3.out.size _).grown hg1 (by have := HB3.out.size; simp; omega) (fun g hg => (HO3.out.lt g hg).1)
            go_roundg (l.length - (j + 1))
            case measure => omega
            case rel => exact ⟨j + 1, by omega, rfl, by go_num, hb1, by rw [HS.out]; exact ho1⟩
        · obtain rfl : j = l.length := by omega
          have hon : onceK l l.length = once l := by unfold onceK; rw [List.take_length]
          rw [hon] at HO3 ⊢
          have h4 := (H2.out.after hb3).after ((Below.refl _ _).alloc (Nat.le_refl _) (.cells #[.slice A3 (once l).length c3] 27))
          have HE := Lib.hid h4
          have HRP : Hid (RdP (wr.alloc (.cells #[.slice A3 (once l).length c3] 27)) (fun g => gb < g ∧ g < (wr.alloc (.cells #[.slice A3 (once l).length c3] 27)).heap.size ∧ v.ownBlock ≠ some g) A3 (ints (once l))) := Lib.hid
            ((RdP.of_own HO3.out).keep fun g hg => ⟨⟨Nat.lt_of_lt_of_le H2.out.gsz hg.1, by simp; omega, fun e => by have := (H2.out.own.lt g e).2; omega⟩, heap_alloc_lt _ _ hg.2⟩)
          have hv5 := Go.Joins.cell_of_block (H2.out.after hb3).blk 5
          have hgs := (H2.out.after hb3).gsz
          have hx1 : xs.length + 1 ≤ maxLen := by simp only [maxLen]; omega
          have hx2 : (xs.length + 1) * 24 ≤ 140737488355328 := by omega
          clear hb3 ho3 h4
          go_wp2_with (at_builtin; go_loud (refine wpList_app_gen (w := wr.alloc (.cells #[.slice A3 (once l).length c3] 27)) rfl (.tmp 53) (.tmp 55) 35 27 (.slice none 0 0) 24 Tryz.underlying35 info27 rfl rfl rfl HE.out.own rfl (heap_alloc_new wr _) rfl hx1 hx2 (by have := HE.out.gsz; omega) ?_); intro v6 w6 ho6 hg6 hv6; obtain ⟨A6, c6, rfl, -, -⟩ := own_form ho6; have e6 := HE.out.step ho6 hg6 hv6 HRP.out; have e7 := (hg6.block gb HE.out.gsz (fun e => by have := (HE.out.own.lt gb e.symm).1; omega)).trans HE.out.blk; have c7 := Go.Joins.cell_of_block e7 5; have f7 := Go.Joins.unfrozen_of_block e7 5; have HN := Lib.hid e6; clear e6 e7)
          go_roundg (f.bl.length - (i + 1))
          case measure => omega
          case rel => exact ⟨i + 1, _, _, by omega, rfl, by go_num, by have h9 := HN.out; rw [show (xs ++ [Value.slice A3 (once l).length c3]).length = i + 1 by simp [hxl]] at h9; rw [HTS.out]; exact h9⟩
    · obtain rfl : i = f.bl.length := by omega
      rw [List.take_length] at he H
      have hxl : xs.length = (tos f.bl).length := he.lsts.len
      have hol := he.own
      obtain ⟨TA, tc, rfl, -, -⟩ := own_form hol
      rw [hxl] at hol
      obtain ⟨A, c, hrows⟩ := he.lsts.rows rfl hol (B := wr.heap.size) (fun g hg => hg.2.1) (Nat.le_refl _)
      have hc5 := Go.Joins.cell_of_block he.blk 5
      have HFR := Lib.hid (from_92 gb (tos f.bl) TA tc A c wr (by rw [← hxl]; exact hc5) he.gsz hrows (by rw [tos_len]; exact HG.out.b1) (by rw [tos_len]; exact HG.out.b4) HG.out.closed (tos_le f.bl))
      have HROWS := Lib.hid hrows
      have hbl0 := tos_len f.bl
      rw [hbl0] at hxl HFR
      rw [hxl] at hc5 H
      clear he hol hrows
      go_wp2_with (go_at_call 92; refine HFR.out.mono ?_; rintro e w5 ⟨seen, rfl, hfd, hbo, hb5⟩; have e5 := (hb5.block gb H.out.gsz).trans H.out.blk; have c6 := Go.Joins.cell_of_block e5 6; have f6 := Go.Joins.unfrozen_of_block e5 6; have H5 := Lib.hid (H.out.after hb5); have HFD := Lib.hid hfd; have HBO := Lib.hid hbo; have HB5 := Lib.hid hb5; have HS5 := Lib.hid (heap_set (o := 6) e5 (.slice (some ⟨wr.heap.size, 0, none⟩) f.bl.length f.bl.length)); clear e5 hfd hbo hb5)
      go_ret2
      have hgs := H.out.gsz
      have hlt5 := HBO.out.lt
      have hwr5 := HB5.out.size
      have HLW := H5.out.below.size
      have hkeep : ∀ g, g ≠ gb → (w5.setCell ⟨gb, 6, none⟩ (.slice (some ⟨wr.heap.size, 0, none⟩) f.bl.length f.bl.length)).heap[g]? = w5.heap[g]? := fun g hg => heap_other _ hg
      have hl5 : Lsts (w5.setCell ⟨gb, 6, none⟩ (.slice (some ⟨wr.heap.size, 0, none⟩) f.bl.length f.bl.length)) (fun g => g < w5.heap.size) xs (tos f.bl) := H5.out.lsts.keep fun g hg => ⟨hg.2.1, hkeep g (by omega)⟩
      have ho5 : (w5.setCell ⟨gb, 6, none⟩ (.slice (some ⟨wr.heap.size, 0, none⟩) f.bl.length f.bl.length)).ownsRow (gb + 1) 27 1 (.slice TA f.bl.length tc) f.bl.length xs := by
        have h8 := H5.out.own
        rw [hxl] at h8
        exact h8.kept (grown_setCell w5 ⟨gb, 6, none⟩ _) (by
          cases hk : (Value.slice TA f.bl.length tc).ownBlock with
          | none => exact .inl rfl
          | some k => exact .inr (fun e => by have := (h8.lt k hk).1; have := Option.some.inj e; simp at this; omega))
      obtain ⟨A8, c8, hrows8⟩ := hl5.rows (n := f.bl.length) hbl0.symm ho5 (B := w5.heap.size) (fun g hg => hg) (by rw [World.size_setCell]; exact Nat.le_refl _)
      refine ⟨gb, ⟨TA, tc, A8, c8, wr.heap.size⟩, seen, rfl, ⟨by rw [World.size_setCell]; omega, ?_, ?_, ?_, by rw [World.size_setCell]; omega, ?_, by rw [HFD.out.1]; exact hbl0⟩, HFD.out, by omega, ?_, show w.heap.size ≤ wr.heap.size by omega⟩
      · rw [HS5.out]; rfl
      · exact (H5.out.fn.keep (fun p hp => cell_of_heap (hkeep _ (by omega))) (by rw [World.size_setCell]; omega))
      · exact hrows8.more (by rw [World.size_setCell]; exact Nat.le_refl _)
      · exact (hkeep wr.heap.size (by omega)).trans HBO.out
      · exact H5.out.below.setCell (p := ⟨gb, 6, none⟩) (by show w.heap.size ≤ gb; omega) _
theorem drawn_51 (f : Fn) (L : FLay) (w : World) (hfa : FnAt w w.heap.size f L) (hK : KeysIn w) (hn : f.name.size ≤ maxLen) (hfit : FnFit f) (hok : fnB 4611686018427387904 f = true) :
    Calls Tryz.prog 51 #[fnV f L] w fun e w' => ∃ gb G rc, e = .returned (.tuple #[.pointer (some ⟨gb, 0, none⟩), .int .i64 0]) ∧ GrAt w' w'.heap.size gb f L G rc ∧ Found (tos f.bl) (-1) 0 rc ∧ w.heap.size < gb ∧ Below w.heap.size w w' := by
  refine (drawn_51x f L w hfa hK hn hfit hok).mono ?_
  rintro e w' ⟨gb, G, rc, h1, h2, h3, h4, h5, -⟩
  exact ⟨gb, G, rc, h1, h2, h3, h4, h5⟩
end Go.Proofs.YthgbmhpfblgjcaaGreatDoor.fl
namespace Go.Proofs.YthgbmhpfblgjcaaGreatDoor.fl
open Go.RowKit Go.Shelf
open M T ty
set_option linter.unusedVariables false
/-- where lives stand: the row of sets, each set -/
structure ILay where
  (ib ic : Nat) (sb : Nat → Nat)
/-- lives stand: their head in block lb, all that is fixed below it, the sets above it -/
structure LvAt (W : World) (lb gb : Nat) (f : Fn) (L : FLay) (G : GLay) (rc : List Bool) (I : ILay) (r : Nat) (s : Ins) : Prop where
  gr : GrAt W lb gb f L G rc
  blk : W.heap[lb]? = some (.cells #[.pointer (some ⟨gb, 0, none⟩), .slice (some ⟨I.ib, 0, none⟩) f.bl.length I.ic] 83 (0, 0))
  ilo : lb < I.ib
  ihi : I.ib < W.heap.size
  row : ∀ j, j < f.bl.length → W.cell? ⟨I.ib, j, none⟩ = some (.pointer (some ⟨I.sb j, 0, none⟩))
  len : s.length = f.bl.length
  sets : ∀ j m, s[j]? = some m → SetAt W (I.sb j) m r
  sgt : ∀ j, j < f.bl.length → lb < I.sb j ∧ I.sb j ≠ I.ib
  inj : ∀ i j, i < f.bl.length → j < f.bl.length → I.sb i = I.sb j → i = j
  ok : InsOk r s
  reg : f.regs = (r : Int)
  r4 : r ≤ 4096
section
variable {W W' : World} {lb gb : Nat} {f : Fn} {L : FLay} {G : GLay} {rc : List Bool} {I : ILay} {r : Nat} {s : Ins}
theorem LvAt.lt (h : LvAt W lb gb f L G rc I r s) : lb < W.heap.size := (Array.getElem?_eq_some_iff.1 h.blk).1
theorem LvAt.slt (h : LvAt W lb gb f L G rc I r s) {j : Nat} (hj : j < f.bl.length) : I.sb j < W.heap.size :=
  (Array.getElem?_eq_some_iff.1 (h.sets j _ (List.getElem?_eq_getElem (by rw [h.len]; exact hj)))).1
theorem LvAt.after (h : LvAt W lb gb f L G rc I r s) (hb : Below W.heap.size W W') : LvAt W' lb gb f L G rc I r s :=
  ⟨h.gr.below (hb.mono (Nat.le_of_lt h.lt)), (hb.block _ h.lt).trans h.blk, h.ilo, Nat.lt_of_lt_of_le h.ihi hb.size, fun j hj => (hb.cell (p := ⟨I.ib, j, none⟩) h.ihi).trans (h.row j hj), h.len,
    fun j m hm => (hb.block _ (Array.getElem?_eq_some_iff.1 (h.sets j m hm)).1).trans (h.sets j m hm), h.sgt, h.inj, h.ok, h.reg, h.r4⟩
theorem LvAt.cells (h : LvAt W lb gb f L G rc I r s) : W.cell? ⟨lb, 0, none⟩ = some (.pointer (some ⟨gb, 0, none⟩)) ∧ W.cell? ⟨lb, 1, none⟩ = some (.slice (some ⟨I.ib, 0, none⟩) f.bl.length I.ic) ∧ W.cell? ⟨gb, 2, none⟩ = some (.int .i64 (r : Int)) ∧ W.cell? ⟨gb, 4, none⟩ = some (.slice L.BA f.bl.length L.bc) ∧ W.cell? ⟨gb, 5, none⟩ = some (.slice G.TA f.bl.length G.tc) ∧ W.cell? ⟨gb, 6, none⟩ = some (.slice (some ⟨G.rb, 0, none⟩) f.bl.length f.bl.length) := by
  obtain ⟨-, -, c2, -, c4, c5, c6⟩ := h.gr.cells
  rw [h.reg] at c2
  exact ⟨Go.Joins.cell_of_block h.blk 0, Go.Joins.cell_of_block h.blk 1, c2, c4, c5, c6⟩
theorem LvAt.inAt_set (h : LvAt W lb gb f L G rc I r s) {k : Nat} (hk : k < f.bl.length) : SetAt W (I.sb k) (inAt s k) r := by
  have e : s[k]? = some (inAt s k) := by
    unfold inAt
    rw [Int.toNat_natCast, List.getElem?_eq_getElem (by rw [h.len]; exact hk)]
    rfl
  exact h.sets k _ e
end
theorem two_r {r m : Nat} (hm : m < 2 ^ r) (hr : r ≤ 4096) : m < 2 ^ 4096 := lt_up (b := 4096) hm hr
theorem built69 (R : Int) : Tryz.prog.built 69 [(1, .int .i64 R)] = some (setCells 0 R).toArray := by kernel_rfl
/-- a set of no members is made -/
theorem wpList_set69 {ops : Array Oper} {rest : List Oper} {o : Oper} {a : Act} {w : World} {Q : Exit → Act → World → Prop} (hgd : o.guard = none) (x : Operand) (ho : o.op = .build 69 #[(1, x)])
    {R : Int} (hx : a.eval x = .int .i64 R) (h : wpList Tryz.prog ops Q rest (a.put o.dst (.agg (setCells 0 R).toArray)) w) : wpList Tryz.prog ops Q (o :: rest) a w :=
  wpList_plain hgd fun K hK => by
    have hb := run_build w 69 #[(1, .int .i64 R)] _ (built69 R)
    unfold Oper.wp execOp
    simp only [ho, List.map_toArray, List.map_cons, List.map_nil, hx, Sem.run_bind, hb, Result.andThen_ok]
    exact hK _ _ h
def accAt (s : Ins) (l : List Int) (j : Nat) : Nat := (l.take j).foldl (fun acc k => acc ||| inAt s k) 0
theorem accAt_succ {s : Ins} {l : List Int} {j : Nat} {k : Int} (h : l[j]? = some k) : accAt s l (j + 1) = accAt s l j ||| inAt s k := by
  unfold accAt
  rw [List.take_add_one, h, List.foldl_append]
  rfl
theorem ends_eq (l : List Int) (x : Ex) (s : Ins) : ends l x s = if x.k = 4 then drop (accAt s l l.length) x.d else accAt s l l.length := by
  unfold ends accAt
  rw [List.take_length]
theorem drop_cut (m n : Nat) : drop m (n : Int) = cut m n := by
  unfold drop cut
  rw [if_pos (by omega), Int.toNat_natCast]
theorem drop_neg {m : Nat} {n : Int} (h : n < 0) : drop m n = m := by unfold drop; rw [if_neg (by omega)]
theorem drop_any (b m : Nat) (r : Nat) (n : Int) (w : World) (hn : n < r) (hr : r ≤ 4096) (hm : m < 2 ^ r) (h : SetAt w b m r) :
    Calls Tryz.prog 64 #[.pointer (some ⟨b, 0, none⟩), .int .i64 n] w fun e w' => e = .returned (.tuple #[]) ∧ w.grownBy w' (some b) ∧ SetAt w' b (drop m n) r := by
  rcases Int.lt_or_le n 0 with h0 | h0
  · refine (drop_none b n w h0).mono ?_
    rintro e w' ⟨rfl, rfl⟩
    exact ⟨rfl, World.grownBy.refl _ _, by rw [drop_neg h0]; exact h⟩
  · obtain ⟨k, rfl⟩ := Int.eq_ofNat_of_zero_le h0
    rw [drop_cut]
    exact drop_64 b m r k w (by omega) (two_r hm hr) h
set_option maxRecDepth 20000 in
set_option maxHeartbeats 8000000 in
theorem end_36 (lb gb : Nat) (f : Fn) (L : FLay) (G : GLay) (rc : List Bool) (I : ILay) (r : Nat) (s : Ins) (w : World) (h : LvAt w lb gb f L G rc I r s) (hg : Good 4611686018427387904 f) (b : Nat) (x : Bl) (hx : f.bl[b]? = some x) :
    Calls Tryz.prog 36 #[.pointer (some ⟨lb, 0, none⟩), .int .i64 b] w fun e w' => e = .returned (.pointer (some ⟨w.heap.size, 0, none⟩)) ∧ Below w.heap.size w w' ∧ SetAt w' w.heap.size (ends (once (exitTo x.ex)) x.ex s) r := by
  have H := Lib.hid h
  have HG := Lib.hid hg
  have hb : b < f.bl.length := (List.getElem?_eq_some_iff.1 hx).1
  have hbI : (b : Int) < (f.bl.length : Int) := by omega
  have htl := tos_get hx
  obtain ⟨ad, p, l, hTA, hl, hp, hpb, c7, hrd⟩ := row_at h.gr.rows (k := b) (by rw [tos_len]; exact hb)
  rw [htl] at hl
  have hl := Option.some.inj hl
  subst hl
  obtain ⟨c0, c1, c2, c4, c5, c6⟩ := h.cells
  rw [hTA] at c5
  have HX := Lib.hid hx
  have HRD := Lib.hid hrd
  have hlen := once_le x.ex
  have HCL := Lib.hid (hg.closed _ (List.mem_of_getElem? htl))
  have hs0 : SetAt (w.alloc (.cells (setCells 0 (r : Int)).toArray 69)) w.heap.size 0 r := heap_alloc_new w _
  have HS0 := Lib.hid hs0
  rw [ends_eq]
  have hlb : lb < w.heap.size := h.lt
  have hgb : gb < w.heap.size := Nat.lt_trans h.gr.lt h.lt
  have hpb2 : p.block < w.heap.size := Nat.lt_trans hpb h.lt
  clear h hg hx htl hrd hTA hs0 hl hpb
  generalize hll : once (exitTo x.ex) = l at *
  generalize G.A b = A0 at *
  generalize hE : (if x.ex.k = 4 then drop (accAt s l l.length) x.ex.d else accAt s l l.length) = E
  have HE := Lib.hid hE
  clear hE
  go_enter Tryz.func36, Tryz.ntmps36
  go_wp2_with (with_reducible change wpList _ _ _ ({ dst := _, op := .build 69 _, type := _, pos := _, after := _, guard := _ } :: _) _ _; refine wpList_set69 rfl _ rfl rfl ?_)
  clear c0 c1 c2 c4 c5 c6 c7
  go_loopg [30] l.length (fun N t wr => ∃ j : Nat, j ≤ l.length ∧ N = l.length - j ∧ t = .int .i64 j ∧ Below w.heap.size w wr ∧ SetAt wr w.heap.size (accAt s l j) r ∧ accAt s l j < 2 ^ r)
  case atStart => exact ⟨0, by omega, rfl, rfl, (Below.refl _ _).alloc (Nat.le_refl _) _, HS0.out, Nat.two_pow_pos r⟩
  case round =>
    obtain ⟨j, hj, rfl, rfl, hb3, hs3, ha3⟩ := hrel
    have h3 := H.out.after hb3
    have HB3 := Lib.hid hb3
    have HS3 := Lib.hid hs3
    have HA3 := Lib.hid ha3
    obtain ⟨c0, c1, c2, c4, c5, c6⟩ := h3.cells
    by_cases hlj : j < l.length
    · have hljI : (j : Int) < (l.length : Int) := by omega
      obtain ⟨ad2, p2, y, rfl, hy, hp2, -, b0⟩ := rd_int (HRD.out.below (hb3.mono (Nat.le_of_lt hlb))) hlj
      obtain ⟨y0, y1⟩ := HCL.out y (List.mem_of_getElem? hy)
      rw [tos_len] at y1
      obtain ⟨k, rfl⟩ := Int.eq_ofNat_of_zero_le y0
      have hk : k < f.bl.length := by omega
      have hkI : (k : Int) < (f.bl.length : Int) := y1
      have c8 := h3.row k hk
      have hin := inAt_lt h3.ok (k : Int)
      have HJ := Lib.hid (join_25 w.heap.size (I.sb k) (accAt s l j) (inAt s k) r wr h3.r4 (two_r ha3 h3.r4) (two_r hin h3.r4) hin (by have := H.out.slt hk; omega) hs3 (h3.inAt_set hk))
      have HAC := Lib.hid (accAt_succ (s := s) hy)
      have HIN := Lib.hid hin
      clear h3 hb3 hs3 ha3 hy
      go_wp2_with (go_at_call 25; refine HJ.out.mono ?_; rintro e w4 ⟨rfl, hg4, hs4⟩; have HS4 := Lib.hid hs4; have HG4 := Lib.hid hg4; clear hs4 hg4)
      go_roundg (l.length - (j + 1))
      case measure => omega
      case rel => exact ⟨j + 1, by omega, rfl, by go_num, HB3.out.grown HG4.out HB3.out.size (fun g hg => by have := Option.some.inj hg; omega), by rw [HAC.out]; exact HS4.out, by rw [HAC.out]; exact join_lt HA3.out HIN.out⟩
    · obtain rfl : j = l.length := by omega
      obtain ⟨ad3, p3, x3, hBA, hx3, hp3, hpb3, d0, d1, d2, d3, d4, d5⟩ := bl_at h3.gr.fn.bls hb
      rw [HX.out] at hx3
      have hx3 := Option.some.inj hx3
      subst hx3
      rw [hBA] at c4
      have hpb4 : p3.block < wr.heap.size := Nat.lt_trans hpb3 h3.lt
      have hal : Below wr.heap.size wr (wr.alloc (.cells #[.int .i64 x.ex.k, .int .i64 x.ex.a, .int .i64 x.ex.d, .int .i64 x.ex.to, .int .i64 x.ex.els] 50)) := (Below.refl _ _).alloc (Nat.le_refl _) _
      have hwl : w.heap.size < wr.heap.size := (Array.getElem?_eq_some_iff.1 hs3).1
      have hdlt : x.ex.d < (r : Int) := by
        have := exit_d (HG.out.ex x (List.mem_of_getElem? HX.out)) HG.out.r0
        rw [h3.reg] at this
        exact this
      have HD := Lib.hid (drop_any w.heap.size (accAt s l l.length) r x.ex.d (wr.alloc (.cells #[.int .i64 x.ex.k, .int .i64 x.ex.a, .int .i64 x.ex.d, .int .i64 x.ex.to, .int .i64 x.ex.els] 50)) hdlt h3.r4 ha3 ((hal.block _ hwl).trans hs3))
      have HSA := Lib.hid ((hal.block _ hwl).trans hs3)
      have HAL := Lib.hid (hb3.trans (hal.mono hb3.size))
      clear h3 hb3 hs3 ha3 hpb3 hal hdlt
      by_cases hk4 : x.ex.k = 4
      · have HK := Lib.hid (HE.out.symm.trans (if_pos hk4))
        have qk : (x.ex.k == 4) = true := by simpa using hk4
        clear hk4
        go_wp2_with (go_at_call 64; refine HD.out.mono ?_; rintro e w4 ⟨rfl, hg4, hs4⟩; have HS4 := Lib.hid hs4; have HG4 := Lib.hid hg4; clear hs4 hg4)
        go_ret
        exact ⟨rfl, HAL.out.grown HG4.out HAL.out.size (fun g hg => by have := Option.some.inj hg; omega), by rw [HK.out]; exact HS4.out⟩
      · have HK := Lib.hid (HE.out.symm.trans (if_neg hk4))
        have qk : (x.ex.k == 4) = false := by simpa using hk4
        clear hk4
        go_wp2_with fail
        go_ret
        exact ⟨rfl, HAL.out, by rw [HK.out]; exact HSA.out⟩
end Go.Proofs.YthgbmhpfblgjcaaGreatDoor.fl
namespace Go.Proofs.YthgbmhpfblgjcaaGreatDoor.fl
open Go.RowKit Go.Shelf
open M T ty
set_option linter.unusedVariables false
/-- the tables of the library and of package lex stand -/
structure Tabs (W : World) : Prop where
  tab : TabIn W
  keys : KeysIn W
  two : 2 ≤ W.heap.size
theorem Tabs.keep {W W' : World} (h : Tabs W) (hk : ∀ g, g < 2 → W'.heap[g]? = W.heap[g]?) (hs : W.heap.size ≤ W'.heap.size) : Tabs W' := by
  refine ⟨fun j hj => (cell_of_heap (p := ⟨0, j, none⟩) (hk 0 (by omega))).trans (h.tab j hj), ?_, Nat.le_trans h.two hs⟩
  intro hn
  obtain ⟨ad, e, hb, hc⟩ := h.keys hn
  have e1 := Option.some.inj e
  subst e1
  refine ⟨_, rfl, Nat.lt_of_lt_of_le hb hs, fun j u hu => (cell_of_heap ?_).trans (hc j u hu)⟩
  rw [M.block_add]
  exact hk 1 (by omega)
theorem Tabs.after {W W' : World} (h : Tabs W) (hb : Below W.heap.size W W') : Tabs W' := h.keep (fun g hg => hb.block g (Nat.lt_of_lt_of_le hg h.two)) hb.size
theorem Tabs.grown {W W' : World} {g : Nat} (h : Tabs W) (hg : W.grownBy W' (some g)) (h2 : 2 ≤ g) : Tabs W' :=
  h.keep (fun k hk => hg.block k (Nat.lt_of_lt_of_le hk h.two) (fun e => by have := Option.some.inj e; omega)) hg.size
theorem grown_of_below {W W' : World} (hb : Below W.heap.size W W') (row : Option Nat) : W.grownBy W' row := ⟨hb.os, hb.tape, hb.output, hb.size, fun k hk _ => hb.block k hk⟩
theorem rd_grown {W W' : World} {B g : Nat} {A : Option Addr} {xs : List Value} (h : Rd W B A xs) (hg : W.grownBy W' (some g)) (hB : B ≤ g) (hs : B ≤ W.heap.size) : Rd W' B A xs :=
  h.keep fun p hp => cell_of_heap (hg.block p.block (by omega) (fun e => by have := Option.some.inj e; omega))
/-- an operation's cells in a block of its own -/
def OpBox (W : World) (g : Nat) (o : Op) (AA : Option Addr) (ac : Nat) : Prop := W.heap[g]? = some (.cells #[.int .i64 o.k, .int .i64 o.d, .int .i64 o.a, .int .i64 o.b, .int .i64 o.imm, .string o.text, .slice AA o.args.length ac] 72 (0, 0))
theorem OpBox.cells {W : World} {g : Nat} {o : Op} {AA : Option Addr} {ac : Nat} (h : OpBox W g o AA ac) :
    W.cell? ⟨g, 0, none⟩ = some (.int .i64 o.k) ∧ W.cell? ⟨g, 1, none⟩ = some (.int .i64 o.d) ∧ W.cell? ⟨g, 2, none⟩ = some (.int .i64 o.a) ∧ W.cell? ⟨g, 3, none⟩ = some (.int .i64 o.b) ∧ W.cell? ⟨g, 4, none⟩ = some (.int .i64 o.imm) ∧ W.cell? ⟨g, 5, none⟩ = some (.string o.text) ∧ W.cell? ⟨g, 6, none⟩ = some (.slice AA o.args.length ac) :=
  ⟨Go.Joins.cell_of_block h 0, Go.Joins.cell_of_block h 1, Go.Joins.cell_of_block h 2, Go.Joins.cell_of_block h 3, Go.Joins.cell_of_block h 4, Go.Joins.cell_of_block h 5, Go.Joins.cell_of_block h 6⟩
/-- the variables of back stand -/
structure EnvK (w W : World) (sb cb : Nat) (m sec r : Nat) (o : Op) (AA : Option Addr) (ac : Nat) : Prop where
  grown : w.grownBy W (some sb)
  set : SetAt W sb m r
  sec : SetAt W cb sec r
  box : OpBox W w.heap.size o AA ac
  tabs : Tabs W
  lt : m < 2 ^ r
section
variable {w W W' : World} {sb cb m sec r : Nat} {o : Op} {AA : Option Addr} {ac : Nat}
theorem EnvK.after (h : EnvK w W sb cb m sec r o AA ac) (hb : Below W.heap.size W W') : EnvK w W' sb cb m sec r o AA ac :=
  ⟨h.grown.trans (grown_of_below hb _), (hb.block _ (Array.getElem?_eq_some_iff.1 h.set).1).trans h.set, (hb.block _ (Array.getElem?_eq_some_iff.1 h.sec).1).trans h.sec, (hb.block _ (Array.getElem?_eq_some_iff.1 h.box).1).trans h.box, h.tabs.after hb, h.lt⟩
theorem EnvK.step (h : EnvK w W sb cb m sec r o AA ac) (hne : sb ≠ cb) (h2 : 2 ≤ sb) (hlt : sb < w.heap.size) {m' : Nat} (hg : W.grownBy W' (some sb)) (hs : SetAt W' sb m' r) (hm : m' < 2 ^ r) : EnvK w W' sb cb m' sec r o AA ac :=
  ⟨h.grown.trans hg, hs, h.sec.grown hg (fun e => hne (Option.some.inj e).symm), (hg.block _ (Array.getElem?_eq_some_iff.1 h.box).1 (fun e => by have := Option.some.inj e; omega)).trans h.box, h.tabs.grown hg h2, hm⟩
end
theorem put_any (b m r : Nat) (n : Int) (w : World) (h0 : 0 ≤ n) (hn : n < r) (hr : r ≤ 4096) (h : SetAt w b m r) :
    Calls Tryz.prog 29 #[.pointer (some ⟨b, 0, none⟩), .int .i64 n] w fun e w' => e = .returned (.tuple #[]) ∧ w.grownBy w' (some b) ∧ SetAt w' b (put m n) r := by
  obtain ⟨k, rfl⟩ := Int.eq_ofNat_of_zero_le h0
  exact put_29 b m r k w (by omega) h
def putsAt (m : Nat) (l : List Int) (j : Nat) : Nat := (l.take j).foldl put m
theorem putsAt_succ {m : Nat} {l : List Int} {j : Nat} {k : Int} (h : l[j]? = some k) : putsAt m l (j + 1) = put (putsAt m l j) k := by
  unfold putsAt
  rw [List.take_add_one, h, List.foldl_append]
  rfl
theorem back_eq (m : Nat) (o : Op) (sec : Nat) : back m o sec = if jumps o = true then putsAt (drop m o.d) (readsOp o) (readsOp o).length ||| sec else putsAt (drop m o.d) (readsOp o) (readsOp o).length := by
  unfold back putsAt
  rw [List.take_length]
set_option maxRecDepth 20000 in
set_option maxHeartbeats 8000000 in
theorem back_56 (sb cb m sec r : Nat) (o : Op) (AA : Option Addr) (ac : Nat) (sl st : Int) (B : Nat) (w : World) (hok : opB r sl st o = true) (hr : r ≤ 4096) (hsl : sl ≤ 4611686018427387904) (hst : st ≤ 4611686018427387904) (hm : m < 2 ^ r) (hsec : sec < 2 ^ r)
    (hne : sb ≠ cb) (h2 : 2 ≤ sb) (hB : B ≤ sb) (h : SetAt w sb m r) (hc : SetAt w cb sec r) (hT : Tabs w) (ht : o.text.size ≤ maxLen) (hn : (o.args.length + 2) * 8 ≤ 140737488355328) (hA : Rd w B AA (ints o.args)) :
    Calls Tryz.prog 56 #[.pointer (some ⟨sb, 0, none⟩), opV o AA ac, .pointer (some ⟨cb, 0, none⟩)] w fun e w' => e = .returned (.tuple #[]) ∧ w.grownBy w' (some sb) ∧ SetAt w' sb (back m o sec) r ∧ back m o sec < 2 ^ r := by
  have hin := op_in hok (by omega)
  have hlt : sb < w.heap.size := (Array.getElem?_eq_some_iff.1 h).1
  have hlc : cb < w.heap.size := (Array.getElem?_eq_some_iff.1 hc).1
  have hal : Below w.heap.size w (w.alloc (.cells #[.int .i64 o.k, .int .i64 o.d, .int .i64 o.a, .int .i64 o.b, .int .i64 o.imm, .string o.text, .slice AA o.args.length ac] 72)) := (Below.refl _ _).alloc (Nat.le_refl _) _
  have he0 : EnvK w (w.alloc (.cells #[.int .i64 o.k, .int .i64 o.d, .int .i64 o.a, .int .i64 o.b, .int .i64 o.imm, .string o.text, .slice AA o.args.length ac] 72)) sb cb m sec r o AA ac :=
    ⟨grown_of_below hal _, (hal.block _ hlt).trans h, (hal.block _ hlc).trans hc, heap_alloc_new w _, hT.after hal, hm⟩
  have HE0 := Lib.hid he0
  have HD := Lib.hid (drop_any sb m r o.d _ hin.d hr hm he0.set)
  have HRE := Lib.hid (fun W (hW : EnvK w W sb cb (drop m o.d) sec r o AA ac) => reads_93 r sl st o AA ac W hok (by omega) hsl hst hW.tabs.keys ht hn ((rd_grown hA hW.grown hB (by omega)).more (Nat.le_trans (by omega) hW.grown.size)))
  have HJ := Lib.hid (fun W => jumps_55 o AA ac W)
  have HJN := Lib.hid (fun W m' (hW : EnvK w W sb cb m' sec r o AA ac) => join_25 sb cb m' sec r W hr (two_r hW.lt hr) (two_r hsec hr) hsec hne hW.set hW.sec)
  have HIN := Lib.hid hin.reads
  have HSEC := Lib.hid hsec
  have HDL := Lib.hid (drop_lt (n := o.d) hm)
  have HPL := Lib.hid (fun n (hn : n ∈ readsOp o) => hin.reads n hn)
  obtain ⟨c0, c1, c2, c3, c4, c5, c6⟩ := he0.box.cells
  have hrl : (readsOp o).length ≤ 140737488355328 := by
    have h9 := List.length_filter_le (fun r => decide (0 ≤ r)) (o.a :: o.b :: o.args)
    unfold readsOp
    simp only [List.length_cons] at h9
    omega
  rw [back_eq]
  generalize hEE : (if jumps o = true then putsAt (drop m o.d) (readsOp o) (readsOp o).length ||| sec else putsAt (drop m o.d) (readsOp o) (readsOp o).length) = E
  have HE := Lib.hid hEE
  clear hok hsl hst hm hsec h hc hT ht hn hA hin hal he0 hEE
  unfold opV at HRE HJ ⊢
  go_enter Tryz.func56, Tryz.ntmps56
  go_wp2_with (first
    | (go_at_call 64; refine HD.out.mono ?_; rintro e w1 ⟨rfl, hg1, hs1⟩; have h1 := HE0.out.step hne h2 hlt hg1 hs1 HDL.out; clear c0 c1 c2 c3 c4 c5 c6; obtain ⟨c0, c1, c2, c3, c4, c5, c6⟩ := h1.box.cells; have H1 := Lib.hid h1; clear h1 hg1 hs1)
    | (go_at_call 93; refine (HRE.out _ H1.out).mono ?_; rintro e w3 ⟨v, rfl, hv, hb3⟩; obtain ⟨A', c', rfl, ho⟩ := hv; have HRP : Hid (∀ W, w3.grownBy W (some sb) → Rd W w3.heap.size A' (ints (readsOp o))) := Lib.hid (fun W hW => ((RdP.of_own ho).keep (P' := fun g => g < w3.heap.size) fun g hg => ⟨hg.2, hW.block g hg.2 (fun e => by have := Option.some.inj e; have := H1.out.grown.size; omega)⟩)); have H3 := Lib.hid (H1.out.after hb3); clear ho hb3 c0 c1 c2 c3 c4 c5 c6))
  clear HE0 H1 HD HRE
  generalize hll : readsOp o = l at *
  generalize hmm : drop m o.d = m1 at *
  go_loopg [15] l.length (fun N t wr => ∃ j : Nat, j ≤ l.length ∧ N = l.length - j ∧ t = .int .i64 j ∧ EnvK w wr sb cb (putsAt m1 l j) sec r o AA ac ∧ w3.grownBy wr (some sb))
  case atStart => exact ⟨0, by omega, rfl, rfl, H3.out, World.grownBy.refl _ _⟩
  case round =>
    obtain ⟨j, hj, rfl, rfl, h4, hg4⟩ := hrel
    have H4 := Lib.hid h4
    have HG4 := Lib.hid hg4
    by_cases hlj : j < l.length
    · have hljI : (j : Int) < (l.length : Int) := by omega
      have hw3 := H3.out.grown.size
      obtain ⟨ad2, p2, y, rfl, hy, hp2, -, b0⟩ := rd_int (HRP.out wr HG4.out) hlj
      have hym := HIN.out y (List.mem_of_getElem? hy)
      have HP := Lib.hid (put_any sb (putsAt m1 l j) r y wr hym.1 hym.2 hr h4.set)
      have HS := Lib.hid (putsAt_succ (m := m1) hy)
      have HPL2 := Lib.hid (put_lt h4.lt hym.2 hym.1)
      clear h4 hg4 hy hym
      go_wp2_with (go_at_call 29; refine HP.out.mono ?_; rintro e w5 ⟨rfl, hg5, hs5⟩; have H5 := Lib.hid (H4.out.step hne h2 hlt hg5 hs5 HPL2.out); have HG5 := Lib.hid (HG4.out.trans hg5); clear hg5 hs5)
      go_roundg (l.length - (j + 1))
      case measure => omega
      case rel => exact ⟨j + 1, by omega, rfl, by go_num, by rw [HS.out]; exact H5.out, HG5.out⟩
    · obtain rfl : j = l.length := by omega
      obtain ⟨c0, c1, c2, c3, c4, c5, c6⟩ := h4.box.cells
      clear h4 hg4
      cases hjj : jumps o with
      | true =>
        rw [hjj] at HJ HE
        have HK := Lib.hid (HE.out.symm.trans (if_pos rfl))
        have HJNl := HJN
        clear hjj
        go_wp2_with (first
          | (go_at_call 55; refine (HJ.out _).mono ?_; rintro e w6 ⟨rfl, hb6⟩; have H6 := Lib.hid (H4.out.after hb6); clear hb6 c0 c1 c2 c3 c4 c5 c6)
          | (go_at_call 25; refine (HJN.out _ _ H6.out).mono ?_; rintro e w7 ⟨rfl, hg7, hs7⟩; have HG7 := Lib.hid hg7; have HS7 := Lib.hid hs7; clear hg7 hs7))
        go_end0
        exact ⟨rfl, H6.out.grown.trans HG7.out, by rw [HK.out]; exact HS7.out, by rw [HK.out]; exact join_lt H6.out.lt HSEC.out⟩
      | false =>
        rw [hjj] at HJ HE
        have HK := Lib.hid (HE.out.symm.trans (if_neg (by decide)))
        clear hjj
        go_wp2_with (go_at_call 55; refine (HJ.out _).mono ?_; rintro e w6 ⟨rfl, hb6⟩; have H6 := Lib.hid (H4.out.after hb6); clear hb6 c0 c1 c2 c3 c4 c5 c6)
        go_end0
        exact ⟨rfl, H6.out.grown, by rw [HK.out]; exact H6.out.set, by rw [HK.out]; exact H6.out.lt⟩
end Go.Proofs.YthgbmhpfblgjcaaGreatDoor.fl
