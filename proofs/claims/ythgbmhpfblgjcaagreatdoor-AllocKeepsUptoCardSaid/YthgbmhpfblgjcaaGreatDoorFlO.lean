/-
  The contract of point of package flow. Conditions: the lives stand; the block is one; the tables stand.
-/
import Derived.Test.YthgbmhpfblgjcaaGreatDoorFlM
import Derived.Deep.RegionWith
import Derived.Deep.RegionHeld3
set_option linter.unusedVariables false
set_option linter.unusedSimpArgs false
namespace Go.Proofs.YthgbmhpfblgjcaaGreatDoor.fl
open Go.RowKit Go.Shelf
open M T ty
set_option linter.unusedVariables false
/-- a function's parts are as small as the second form has them -/
structure Fits (f : Fn) : Prop where
  name : f.name.size ≤ 1048576
  op : ∀ x ∈ f.bl, x.ops.length ≤ 1048576 ∧ ∀ o ∈ x.ops, o.text.size ≤ 1048576 ∧ o.args.length ≤ 1048576
theorem Fits.fit {f : Fn} (h : Fits f) : FnFit f := fun x hx => ⟨by have := (h.op x hx).1; omega, fun o ho => by have := (h.op x hx).2 o ho; simp only [maxLen]; omega⟩
def secUp (bl : List Bl) (rc : List Bool) (s : Ins) : Nat → Nat
  | 0 => 0
  | i + 1 => match bl[i]? with
    | some x => if rc[i]? = some true ∧ x.ex.k = 4 then secUp bl rc s i ||| drop (inAt s x.ex.els) x.ex.d else secUp bl rc s i
    | none => secUp bl rc s i
theorem second_up (bl : List Bl) (rc : List Bool) (s : Ins) : ∀ (k i : Nat), k + i = bl.length → secondFrom rc s i (bl.drop i) (secUp bl rc s i) = secUp bl rc s bl.length
  | 0, i, h => by
    have : i = bl.length := by omega
    subst this
    rw [List.drop_length]
    rfl
  | k + 1, i, h => by
    have hi : i < bl.length := by omega
    rw [List.drop_eq_getElem_cons hi]
    have ih := second_up bl rc s k (i + 1) (by omega)
    rw [secUp, List.getElem?_eq_getElem hi] at ih
    exact ih
theorem second_eq (bl : List Bl) (rc : List Bool) (s : Ins) : second bl rc s = secUp bl rc s bl.length := second_up bl rc s bl.length 0 (by omega)
theorem secUp_lt {bl : List Bl} {rc : List Bool} {s : Ins} {r : Nat} (hs : InsOk r s) : ∀ i, secUp bl rc s i < 2 ^ r
  | 0 => Nat.two_pow_pos r
  | i + 1 => by
    rw [secUp]
    split
    · split
      · exact join_lt (secUp_lt hs i) (drop_lt (inAt_lt hs _))
      · exact secUp_lt hs i
    · exact secUp_lt hs i
theorem without_any (b m : Nat) (r : Nat) (n : Int) (w : World) (hn : n < r) (hr : r ≤ 4096) (hm : m < 2 ^ r) (h : SetAt w b m r) :
    Calls Tryz.prog 54 #[.pointer (some ⟨b, 0, none⟩), .int .i64 n] w fun e w' => e = .returned (.pointer (some ⟨w.heap.size, 0, none⟩)) ∧ Below w.heap.size w w' ∧ SetAt w' w.heap.size (drop m n) r := by
  rcases Int.lt_or_le n 0 with h0 | h0
  · rw [drop_neg h0]
    exact without_none b m r n w h0 h
  · obtain ⟨k, rfl⟩ := Int.eq_ofNat_of_zero_le h0
    rw [drop_cut]
    exact without_54 b m r k w (by omega) (two_r hm hr) h
/-- a block's cells in a block of its own -/
def BlBox (W : World) (g : Nat) (x : Bl) (OA : Option Addr) (oc : Nat) : Prop := W.heap[g]? = some (.cells #[.slice OA x.ops.length oc, .int .i64 x.ex.k, .int .i64 x.ex.a, .int .i64 x.ex.d, .int .i64 x.ex.to, .int .i64 x.ex.els] 52 (0, 0))
theorem BlBox.cells {W : World} {g : Nat} {x : Bl} {OA : Option Addr} {oc : Nat} (h : BlBox W g x OA oc) :
    W.cell? ⟨g, 0, none⟩ = some (.slice OA x.ops.length oc) ∧ W.cell? ⟨g, 1, none⟩ = some (.int .i64 x.ex.k) ∧ W.cell? ⟨g, 2, none⟩ = some (.int .i64 x.ex.a) ∧ W.cell? ⟨g, 3, none⟩ = some (.int .i64 x.ex.d) ∧ W.cell? ⟨g, 4, none⟩ = some (.int .i64 x.ex.to) ∧ W.cell? ⟨g, 5, none⟩ = some (.int .i64 x.ex.els) :=
  ⟨Go.Joins.cell_of_block h 0, Go.Joins.cell_of_block h 1, Go.Joins.cell_of_block h 2, Go.Joins.cell_of_block h 3, Go.Joins.cell_of_block h 4, Go.Joins.cell_of_block h 5⟩
set_option maxRecDepth 20000 in
set_option maxHeartbeats 8000000 in
theorem second_52 (lb gb : Nat) (f : Fn) (L : FLay) (G : GLay) (rc : List Bool) (I : ILay) (r : Nat) (s : Ins) (w : World) (h : LvAt w lb gb f L G rc I r s) (hg : Good 4611686018427387904 f) :
    Calls Tryz.prog 52 #[.pointer (some ⟨lb, 0, none⟩)] w fun e w' => e = .returned (.pointer (some ⟨w.heap.size, 0, none⟩)) ∧ Below w.heap.size w w' ∧ SetAt w' w.heap.size (second f.bl rc s) r := by
  obtain ⟨SA, sc, BA, bc, OA, oc, AA, ac⟩ := L
  have H := Lib.hid h
  have HG := Lib.hid hg
  obtain ⟨c0, c1, c2, c4, c5, c6⟩ := h.cells
  have hs0 : SetAt (w.alloc (.cells (setCells 0 (r : Int)).toArray 69)) w.heap.size 0 r := heap_alloc_new w _
  have HS0 := Lib.hid hs0
  have hlb : lb < w.heap.size := h.lt
  have hgb : gb < w.heap.size := Nat.lt_trans h.gr.lt h.lt
  have hbl4 : (f.bl.length : Int) ≤ 4096 := by have := hg.b4; omega
  rw [second_eq]
  clear h hg hs0
  go_enter Tryz.func52, Tryz.ntmps52
  go_wp2_with (with_reducible change wpList _ _ _ ({ dst := _, op := .build 69 _, type := _, pos := _, after := _, guard := _ } :: _) _ _; refine wpList_set69 rfl _ rfl rfl ?_)
  clear c0 c1 c2 c4 c5 c6
  go_loopg [25] f.bl.length (fun N t wr => ∃ j : Nat, j ≤ f.bl.length ∧ N = f.bl.length - j ∧ t = .int .i64 j ∧ Below w.heap.size w wr ∧ SetAt wr w.heap.size (secUp f.bl rc s j) r)
  case atStart => exact ⟨0, by omega, rfl, rfl, (Below.refl _ _).alloc (Nat.le_refl _) _, HS0.out⟩
  case round =>
    obtain ⟨j, hj, rfl, rfl, hb3, hs3⟩ := hrel
    have h3 := H.out.after hb3
    have HB3 := Lib.hid hb3
    have HS3 := Lib.hid hs3
    obtain ⟨c0, c1, c2, c4, c5, c6⟩ := h3.cells
    by_cases hlj : j < f.bl.length
    · have hljI : (j : Int) < (f.bl.length : Int) := by omega
      have hwl : w.heap.size < wr.heap.size := (Array.getElem?_eq_some_iff.1 hs3).1
      have hbl : BlsAt wr lb BA f.bl OA oc AA ac := h3.gr.fn.bls
      obtain ⟨ad3, p3, x, rfl, hx, hp3, hpb3, d0, d1, d2, d3, d4, d5⟩ := bl_at hbl hlj
      have hpb4 : p3.block < wr.heap.size := Nat.lt_trans hpb3 h3.lt
      have hal : Below wr.heap.size wr (wr.alloc (.cells #[.slice (OA j) x.ops.length (oc j), .int .i64 x.ex.k, .int .i64 x.ex.a, .int .i64 x.ex.d, .int .i64 x.ex.to, .int .i64 x.ex.els] 52)) := (Below.refl _ _).alloc (Nat.le_refl _) _
      have HAL := Lib.hid hal
      have hrl : rc.length = f.bl.length := h3.gr.rlen
      have hrj : rc[j]? = some rc[j] := List.getElem?_eq_getElem (by omega)
      have c8 := h3.gr.rch.cell hrj
      have hgb2 : gb < wr.heap.size := by omega
      have hlb2 : lb < wr.heap.size := by omega
      have hrb2 : G.rb < wr.heap.size := Nat.lt_trans h3.gr.rlt h3.lt
      have hsu : secUp f.bl rc s (j + 1) = if rc[j]? = some true ∧ x.ex.k = 4 then secUp f.bl rc s j ||| drop (inAt s x.ex.els) x.ex.d else secUp f.bl rc s j := by
        rw [secUp, hx]
      rw [hrj] at hsu
      have HSL := Lib.hid (secUp_lt (bl := f.bl) (rc := rc) h3.ok j)
      have h4 := h3.after hal
      have H4 := Lib.hid h4
      have hbox : BlBox (wr.alloc (.cells #[.slice (OA j) x.ops.length (oc j), .int .i64 x.ex.k, .int .i64 x.ex.a, .int .i64 x.ex.d, .int .i64 x.ex.to, .int .i64 x.ex.els] 52)) wr.heap.size x (OA j) (oc j) := heap_alloc_new wr _
      have HBX := Lib.hid hbox
      cases hrcj : rc[j] with
      | false =>
        rw [hrcj] at c8 hsu
        rw [if_neg (by simp)] at hsu
        have HSU := Lib.hid hsu
        clear h3 hb3 hs3 hbl hx hal hrj hsu h4 hbox hrcj
        go_wp2_with fail
        go_roundg (f.bl.length - (j + 1))
        case measure => omega
        case rel => exact ⟨j + 1, by omega, rfl, by go_num, HB3.out.trans (HAL.out.mono HB3.out.size), by rw [HSU.out]; exact (HAL.out.block _ hwl).trans HS3.out⟩
      | true =>
        rw [hrcj] at c8 hsu
        by_cases hk4 : x.ex.k = 4
        · rw [if_pos ⟨rfl, hk4⟩] at hsu
          obtain ⟨hd0, hdr, -, -, he1, heb, -⟩ := exit_set (HG.out.ex x (List.mem_of_getElem? hx)) hk4
          have qk : (x.ex.k == 4) = true := by simpa using hk4
          rw [h4.reg] at hdr
          obtain ⟨k, hk⟩ := Int.eq_ofNat_of_zero_le (show 0 ≤ x.ex.els by omega)
          have hkb : k < f.bl.length := by omega
          have c9 := h4.row k hkb
          have HSU := Lib.hid hsu
          obtain ⟨e0, e1, e2, e3, e4, e5⟩ := hbox.cells
          have c1' := h4.cells.2.1
          clear h3 hb3 hs3 hbl hx hal hrj hsu hbox hrcj hk4
          have hsl := H.out.slt hkb
          have hin := inAt_lt h4.ok (k : Int)
          have hkI : (k : Int) < (f.bl.length : Int) := by omega
          have hdl := drop_lt (n := x.ex.d) hin
          have HWO := Lib.hid (fun W (hW : Below (wr.heap.size + 1) (wr.alloc (.cells #[.slice (OA j) x.ops.length (oc j), .int .i64 x.ex.k, .int .i64 x.ex.a, .int .i64 x.ex.d, .int .i64 x.ex.to, .int .i64 x.ex.els] 52)) W) =>
            without_any (I.sb k) (inAt s k) r x.ex.d W hdr h4.r4 hin ((hW.block _ (by have := HB3.out.size; omega)).trans (h4.inAt_set hkb)))
          have HJN := Lib.hid (fun W b (hb : w.heap.size ≠ b) (h1 : SetAt W w.heap.size (secUp f.bl rc s j) r) (h2 : SetAt W b (drop (inAt s k) x.ex.d) r) => join_25 w.heap.size b (secUp f.bl rc s j) (drop (inAt s k) x.ex.d) r W h4.r4 (two_r HSL.out h4.r4) (two_r hdl h4.r4) hdl hb h1 h2)
          have HSA := Lib.hid ((HAL.out.block _ hwl).trans HS3.out)
          have HR0 := Lib.hid ((Below.refl (wr.heap.size + 1) (wr.alloc (.cells #[.slice (OA j) x.ops.length (oc j), .int .i64 x.ex.k, .int .i64 x.ex.a, .int .i64 x.ex.d, .int .i64 x.ex.to, .int .i64 x.ex.els] 52))).drew)
          have hib := H.out.ihi
          have HK : Hid (∀ W, Below (wr.heap.size + 1) (wr.alloc (.cells #[.slice (OA j) x.ops.length (oc j), .int .i64 x.ex.k, .int .i64 x.ex.a, .int .i64 x.ex.d, .int .i64 x.ex.to, .int .i64 x.ex.els] 52)) W → W.cell? ⟨lb, 1, none⟩ = some (.slice (some ⟨I.ib, 0, none⟩) f.bl.length I.ic) ∧ W.cell? ⟨wr.heap.size, 5, none⟩ = some (.int .i64 x.ex.els) ∧ W.cell? ⟨wr.heap.size, 3, none⟩ = some (.int .i64 x.ex.d) ∧ W.cell? ⟨I.ib, k, none⟩ = some (.pointer (some ⟨I.sb k, 0, none⟩))) := Lib.hid fun W hW =>
            ⟨(hW.cell (p := ⟨lb, 1, none⟩) (by show lb < _; omega)).trans c1', (hW.cell (p := ⟨wr.heap.size, 5, none⟩) (Nat.lt_succ_self _)).trans e5, (hW.cell (p := ⟨wr.heap.size, 3, none⟩) (Nat.lt_succ_self _)).trans e3, (hW.cell (p := ⟨I.ib, k, none⟩) (by show I.ib < _; have := HB3.out.size; omega)).trans c9⟩
          have K0 := Lib.hid (HK.out _ (Below.refl _ _))
          clear h4 c1' c9 e0 e1 e2 e3 e4 e5
          generalize x.ex.els = els at *
          subst hk
          have HKG : Hid (∀ W W' : World, (W.cell? ⟨lb, 1, none⟩ = some (.slice (some ⟨I.ib, 0, none⟩) f.bl.length I.ic) ∧ W.cell? ⟨wr.heap.size, 5, none⟩ = some (.int .i64 (k : Int)) ∧ W.cell? ⟨wr.heap.size, 3, none⟩ = some (.int .i64 x.ex.d) ∧ W.cell? ⟨I.ib, k, none⟩ = some (.pointer (some ⟨I.sb k, 0, none⟩))) → (wr.alloc (.cells #[.slice (OA j) x.ops.length (oc j), .int .i64 x.ex.k, .int .i64 x.ex.a, .int .i64 x.ex.d, .int .i64 x.ex.to, .int .i64 (k : Int)] 52)).heap.size ≤ W.heap.size → W.grownBy W' (some w.heap.size) →
              (W'.cell? ⟨lb, 1, none⟩ = some (.slice (some ⟨I.ib, 0, none⟩) f.bl.length I.ic) ∧ W'.cell? ⟨wr.heap.size, 5, none⟩ = some (.int .i64 (k : Int)) ∧ W'.cell? ⟨wr.heap.size, 3, none⟩ = some (.int .i64 x.ex.d) ∧ W'.cell? ⟨I.ib, k, none⟩ = some (.pointer (some ⟨I.sb k, 0, none⟩)))) := Lib.hid fun W W' ⟨h1, h2, h3, h4⟩ hs hg => by
            rw [World.size_alloc] at hs
            have key : ∀ g, g < wr.heap.size + 1 → g ≠ w.heap.size → W'.heap[g]? = W.heap[g]? := fun g h h' => hg.block g (by omega) (fun e => h' (Option.some.inj e))
            exact ⟨(cell_of_heap (p := ⟨lb, 1, none⟩) (key lb (by omega) (by omega))).trans h1, (cell_of_heap (p := ⟨wr.heap.size, 5, none⟩) (key wr.heap.size (by omega) (by omega))).trans h2, (cell_of_heap (p := ⟨wr.heap.size, 3, none⟩) (key wr.heap.size (by omega) (by omega))).trans h3, (cell_of_heap (p := ⟨I.ib, k, none⟩) (key I.ib (by omega) (by omega))).trans h4⟩
          go_upto_region 6 with fail
          have hw1 : (wr.alloc (.cells #[.slice (OA j) x.ops.length (oc j), .int .i64 x.ex.k, .int .i64 x.ex.a, .int .i64 x.ex.d, .int .i64 x.ex.to, .int .i64 (k : Int)] 52)).heap.size = wr.heap.size + 1 := World.size_alloc _ _
          generalize (wr.alloc (.cells #[.slice (OA j) x.ops.length (oc j), .int .i64 x.ex.k, .int .i64 x.ex.a, .int .i64 x.ex.d, .int .i64 x.ex.to, .int .i64 (k : Int)] 52)) = W1 at *
          have hwl3 : w.heap.size ≠ W1.heap.size := by omega
          go_region_held3 (fun W => W.cell? ⟨lb, 1, none⟩ = some (.slice (some ⟨I.ib, 0, none⟩) f.bl.length I.ic) ∧ W.cell? ⟨wr.heap.size, 5, none⟩ = some (.int .i64 (k : Int)) ∧ W.cell? ⟨wr.heap.size, 3, none⟩ = some (.int .i64 x.ex.d) ∧ W.cell? ⟨I.ib, k, none⟩ = some (.pointer (some ⟨I.sb k, 0, none⟩)))
            (first | exact K0.out | exact K1.out | exact K2.out)
            (first
              | (go_at_call 54; refine (HWO.out _ HR0.out).mono ?_; rintro e w5 ⟨rfl, hb5, hs5⟩; have B1 := Lib.hid (HR0.out.trans (hb5.mono (show wr.heap.size + 1 ≤ W1.heap.size from Nat.le_of_eq hw1.symm))); rw [show W1.drew.heap.size = wr.heap.size + 1 from hw1] at hs5; have HS5 := Lib.hid hs5; have K1 := Lib.hid (HK.out _ B1.out); have HSB := Lib.hid ((B1.out.block w.heap.size (Nat.lt_succ_of_lt hwl)).trans HSA.out); clear hb5 hs5)
              | (go_at_call 25; refine (HJN.out _ _ (show w.heap.size ≠ wr.heap.size + 1 from by omega) HSB.out HS5.out).mono ?_; rintro e w6 ⟨rfl, hg6, hs6⟩; have HS6 := Lib.hid hs6; have HG6 := Lib.hid hg6; have K2 := Lib.hid (HKG.out _ _ K1.out B1.out.size hg6); clear hg6 hs6))
          go_wp2_with fail
          have hbel : Below w.heap.size w w6 := ((HB3.out.trans (HAL.out.mono HB3.out.size)).trans (B1.out.mono (by omega))).grown HG6.out (Nat.le_trans (by omega) B1.out.size) (fun g hg => by have := Option.some.inj hg; omega)
          go_roundg (f.bl.length - (j + 1))
          case measure => omega
          case rel => exact ⟨j + 1, by omega, rfl, by go_num, hbel, by rw [HSU.out]; exact HS6.out⟩
        · rw [if_neg (by simp [hk4])] at hsu
          have qk : (x.ex.k == 4) = false := by simpa using hk4
          have HSU := Lib.hid hsu
          clear h3 hb3 hs3 hbl hx hal hrj hsu h4 hbox hrcj hk4
          go_wp2_with fail
          go_roundg (f.bl.length - (j + 1))
          case measure => omega
          case rel => exact ⟨j + 1, by omega, rfl, by go_num, HB3.out.trans (HAL.out.mono HB3.out.size), by rw [HSU.out]; exact (HAL.out.block _ hwl).trans HS3.out⟩
    · obtain rfl : j = f.bl.length := by omega
      clear h3 hb3 hs3
      go_wp2_with fail
      go_ret
      exact ⟨rfl, HB3.out, HS3.out⟩
end Go.Proofs.YthgbmhpfblgjcaaGreatDoor.fl
namespace Go.Proofs.YthgbmhpfblgjcaaGreatDoor.fl
open Go.RowKit Go.Shelf
open M T ty
set_option linter.unusedVariables false
/-- the variables of point stand -/
structure EnvT (w W : World) (r m g : Nat) (x : Bl) (OA : Option Addr) (oc : Nat) : Prop where
  below : Below w.heap.size w W
  set : SetAt W w.heap.size m r
  lt : m < 2 ^ r
  box : BlBox W g x OA oc
  glt : w.heap.size < g
section
variable {w W W' : World} {r m g : Nat} {x : Bl} {OA : Option Addr} {oc : Nat}
theorem EnvT.after (h : EnvT w W r m g x OA oc) (hb : Below W.heap.size W W') : EnvT w W' r m g x OA oc :=
  ⟨h.below.trans (hb.mono h.below.size), (hb.block _ (Array.getElem?_eq_some_iff.1 h.set).1).trans h.set, h.lt, (hb.block _ (Array.getElem?_eq_some_iff.1 h.box).1).trans h.box, h.glt⟩
theorem EnvT.step (h : EnvT w W r m g x OA oc) {m' : Nat} (hg : W.grownBy W' (some w.heap.size)) (hs : SetAt W' w.heap.size m' r) (hm : m' < 2 ^ r) : EnvT w W' r m' g x OA oc :=
  ⟨h.below.grown hg h.below.size (fun k hk => by have := Option.some.inj hk; omega), hs, hm, (hg.block _ (Array.getElem?_eq_some_iff.1 h.box).1 (fun e => by have := Option.some.inj e; have := h.glt; omega)).trans h.box, h.glt⟩
end
theorem point_eq (l : List Int) (x : Bl) (s : Ins) (n sec : Nat) : point l x s n sec = backs sec (x.ops.drop n) (putsAt (ends l x.ex s) (exitRegs x.ex) (exitRegs x.ex).length) := by
  unfold point putsAt
  rw [List.take_length]
theorem backs_step {sec m : Nat} {ops : List Op} {j : Nat} {o : Op} (h : ops[j]? = some o) : backs sec (ops.drop j) m = back (backs sec (ops.drop (j + 1)) m) o sec := by
  obtain ⟨hj, rfl⟩ := List.getElem?_eq_some_iff.1 h
  unfold backs
  rw [List.drop_eq_getElem_cons hj, List.foldr_cons]
theorem exitRegs_len (x : Ex) : (exitRegs x).length ≤ 1 := by unfold exitRegs; split <;> (try split) <;> simp
set_option maxRecDepth 20000 in
set_option maxHeartbeats 8000000 in
theorem point_53 (lb gb : Nat) (f : Fn) (L : FLay) (G : GLay) (rc : List Bool) (I : ILay) (r : Nat) (s : Ins) (w : World) (h : LvAt w lb gb f L G rc I r s) (hg : Good 4611686018427387904 f) (hF : Fits f) (hT : Tabs w) (h2 : 2 ≤ lb) (b : Nat) (x : Bl) (hx : f.bl[b]? = some x)
    (n : Nat) (hn : n ≤ x.ops.length) (cb sec : Nat) (hc : SetAt w cb sec r) (hsec : sec < 2 ^ r) :
    Calls Tryz.prog 53 #[.pointer (some ⟨lb, 0, none⟩), .int .i64 b, .int .i64 n, .pointer (some ⟨cb, 0, none⟩)] w fun e w' => e = .returned (.pointer (some ⟨w.heap.size, 0, none⟩)) ∧ Below w.heap.size w w' ∧ SetAt w' w.heap.size (point (once (exitTo x.ex)) x s n sec) r := by
  have HEN := Lib.hid (end_36 lb gb f L G rc I r s w h hg b x hx)
  obtain ⟨SA, sc, BA, bc, OA, oc, AA, ac⟩ := L
  have H := Lib.hid h
  have HG := Lib.hid hg
  have hb : b < f.bl.length := (List.getElem?_eq_some_iff.1 hx).1
  have hbI : (b : Int) < (f.bl.length : Int) := by omega
  have hxm := List.mem_of_getElem? hx
  have hbl : BlsAt w lb BA f.bl OA oc AA ac := h.gr.fn.bls
  have hops := hbl.ops b x hx
  obtain ⟨ad3, p3, x3, rfl, hx3, hp3, hpb3, d0, d1, d2, d3, d4, d5⟩ := bl_at hbl hb
  rw [hx] at hx3
  have hx3 := Option.some.inj hx3
  subst hx3
  have hlb : lb < w.heap.size := h.lt
  have hgb : gb < w.heap.size := Nat.lt_trans h.gr.lt h.lt
  have hpb4 : p3.block < w.heap.size := Nat.lt_trans hpb3 h.lt
  have hol := ops_le hg.sum hxm
  have hcl : cb < w.heap.size := (Array.getElem?_eq_some_iff.1 hc).1
  have HX := Lib.hid (fun W => exits_91 x.ex W)
  unfold exV at HX
  have HRG : Hid (∀ n ∈ exitRegs x.ex, 0 ≤ n ∧ n < (r : Int)) := Lib.hid (by have := exit_regs (hg.ex x hxm); rw [h.reg] at this; exact this)
  have HEL := Lib.hid (ends_lt h.ok (once (exitTo x.ex)) x.ex)
  have HBK := Lib.hid (fun (W : World) (m j : Nat) (o : Op) (ho : x.ops[j]? = some o) (hm : m < 2 ^ r) (hW : Below w.heap.size w W) (hs : SetAt W w.heap.size m r) =>
    have hom := List.mem_of_getElem? ho
    have hop := hg.op x hxm o hom
    back_56 w.heap.size cb m sec r o (AA b j) (ac b j) f.slots.length 4611686018427387904 lb W (by rw [← h.reg]; exact hop) h.r4 (by have := hg.sl; omega) (by omega) hm hsec (by omega) (by omega) (by omega) hs ((hW.block cb hcl).trans hc) (hT.after hW) (by have := ((hF.op x hxm).2 o hom).1; simp only [maxLen]; omega) (by have := ((hF.op x hxm).2 o hom).2; omega) ((hops.args j o ho).below (hW.mono (Nat.le_of_lt hlb))))
  have HOPS := Lib.hid hops
  rw [point_eq]
  clear h hg hF hT hx hxm hbl hops hc hx3 hpb3
  unfold opV at HBK
  generalize hee : ends (once (exitTo x.ex)) x.ex s = m0 at *
  generalize hEE : backs sec (List.drop n x.ops) (putsAt m0 (exitRegs x.ex) (exitRegs x.ex).length) = E
  have HE := Lib.hid hEE
  have hrl := exitRegs_len x.ex
  clear hEE hee
  generalize OA b = OAb at *
  go_enter Tryz.func53, Tryz.ntmps53
  go_wp2_with (first
    | (go_at_call 36; refine HEN.out.mono ?_; rintro e w1 ⟨rfl, hb1, hs1⟩; have HB1 := Lib.hid hb1; have HS1 := Lib.hid hs1; obtain ⟨c0, c1, c2, c4, c5, c6⟩ := (H.out.after hb1).cells; have q0 := (hb1.cell (p := p3) hpb4).trans d0; have q1 := (hb1.cell (p := ⟨p3.block, p3.off + 1, none⟩) hpb4).trans d1; have q2 := (hb1.cell (p := ⟨p3.block, p3.off + 2, none⟩) hpb4).trans d2; have q3 := (hb1.cell (p := ⟨p3.block, p3.off + 3, none⟩) hpb4).trans d3; have q4 := (hb1.cell (p := ⟨p3.block, p3.off + 4, none⟩) hpb4).trans d4; have q5 := (hb1.cell (p := ⟨p3.block, p3.off + 5, none⟩) hpb4).trans d5; clear hb1 hs1)
    | (go_at_call 91; refine (HX.out _).mono ?_; rintro e w2 ⟨v2, u2, rfl, hv2, hu2, hb2⟩; obtain ⟨A', c', rfl, ho⟩ := hv2; have hg1 : w.heap.size < w1.heap.size := (Array.getElem?_eq_some_iff.1 HS1.out).1; have hal : Below w1.heap.size w1 (w1.alloc (.cells #[.slice OAb x.ops.length (oc b), .int .i64 x.ex.k, .int .i64 x.ex.a, .int .i64 x.ex.d, .int .i64 x.ex.to, .int .i64 x.ex.els] 52)) := (Below.refl _ _).alloc (Nat.le_refl _) _; have HRP := Lib.hid ((RdP.of_own ho).keep (W' := w2) (P' := fun g' => g' ≠ w.heap.size ∧ g' < w2.heap.size) (fun g' hg' => ⟨⟨fun e => by have h8 := hg'.1; rw [World.size_alloc] at h8; omega, hg'.2⟩, rfl⟩)); have HW2 := Lib.hid hb2.size; have H2 : Hid (EnvT w w2 r m0 w1.heap.size x OAb (oc b)) := Lib.hid ((EnvT.mk (HB1.out.trans (hal.mono HB1.out.size)) ((hal.block _ hg1).trans HS1.out) HEL.out (heap_alloc_new w1 _) hg1).after hb2); clear ho hb2 hal c0 c1 c2 c4 c5 c6 q0 q1 q2 q3 q4 q5))
  clear HX HB1 HS1 HEN
  generalize w1.heap.size = g at *
  generalize hrr : exitRegs x.ex = l at *
  go_loopg [38] l.length (fun N t wr => ∃ j : Nat, j ≤ l.length ∧ N = l.length - j ∧ t = .int .i64 j ∧ EnvT w wr r (putsAt m0 l j) g x OAb (oc b) ∧ w2.grownBy wr (some w.heap.size))
  case atStart => exact ⟨0, by omega, rfl, rfl, H2.out, World.grownBy.refl _ _⟩
  case round =>
    obtain ⟨j, hj, rfl, rfl, h4, hg4⟩ := hrel
    have H4 := Lib.hid h4
    have HG4 := Lib.hid hg4
    by_cases hlj : j < l.length
    · have hljI : (j : Int) < (l.length : Int) := by omega
      obtain ⟨ad2, p2, y, rfl, hy, hp2, -, b0⟩ := rd_int (l := l) (B := w2.heap.size) (w := wr) (A := A') (HRP.out.keep (P' := fun g => g < w2.heap.size) fun g' hg' => ⟨hg'.2, hg4.block g' hg'.2 (fun e => hg'.1 (Option.some.inj e))⟩) hlj
      have hym := HRG.out y (List.mem_of_getElem? hy)
      have HP := Lib.hid (put_any w.heap.size (putsAt m0 l j) r y wr hym.1 hym.2 H.out.r4 h4.set)
      have HS := Lib.hid (putsAt_succ (m := m0) hy)
      have HPL2 := Lib.hid (put_lt h4.lt hym.2 hym.1)
      clear h4 hg4 hy hym
      go_wp2_with (go_at_call 29; refine HP.out.mono ?_; rintro e w5 ⟨rfl, hg5, hs5⟩; have H5 := Lib.hid (H4.out.step hg5 hs5 HPL2.out); have HG5 := Lib.hid (HG4.out.trans hg5); clear hg5 hs5)
      go_roundg (l.length - (j + 1))
      case measure => omega
      case rel => exact ⟨j + 1, by omega, rfl, by go_num, by rw [HS.out]; exact H5.out, HG5.out⟩
    · obtain rfl : j = l.length := by omega
      generalize putsAt m0 l l.length = m1 at *
      have hbx := h4.box.cells
      obtain ⟨c0, -⟩ := hbx
      clear h4 hg4
      go_wp2_with fail
      go_loopg [15] (0 + x.ops.length) (fun N t wr => ∃ (j : Nat) (e : Int), n ≤ j ∧ j ≤ x.ops.length ∧ N = 0 + j ∧ t = .int .i64 e ∧ e = (j : Int) - 1 ∧ EnvT w wr r (backs sec (x.ops.drop j) m1) g x OAb (oc b))
      case atStart => exact ⟨x.ops.length, _, hn, by omega, rfl, rfl, by go_num, by rw [List.drop_length]; exact H4.out⟩
      case round =>
        obtain ⟨j, e, hj1, hj2, rfl, rfl, he, h6⟩ := hrel
        have H6 := Lib.hid h6
        obtain ⟨c0, -⟩ := h6.box.cells
        by_cases hjn : n < j
        · obtain ⟨k, rfl⟩ : ∃ k, j = k + 1 := ⟨j - 1, by omega⟩
          have he2 : e = (k : Int) := by omega
          clear he
          subst he2
          have hkn : (n : Int) ≤ (k : Int) := by omega
          have hkl : k < x.ops.length := by omega
          have hkI : (k : Int) < (x.ops.length : Int) := by omega
          have hor : OpsAt wr lb OAb x.ops (AA b) (ac b) := HOPS.out.keep (W' := wr) (fun p hp => h6.below.cell (by omega)) (Nat.le_refl _)
          obtain ⟨ad5, p5, o, rfl, ho, hp5, hpb5, e0, e1, e2, e3, e4, e5, e6⟩ := op_at hor hkl
          have HB6 := Lib.hid (HBK.out wr _ k o ho h6.lt h6.below h6.set)
          have HST := Lib.hid (backs_step (sec := sec) (m := m1) ho)
          clear h6 hor ho
          go_wp2_with (go_at_call 56; refine HB6.out.mono ?_; rintro e7 w7 ⟨rfl, hg7, hs7, hl7⟩; have H7 := Lib.hid (H6.out.step hg7 hs7 hl7); clear hg7 hs7 hl7)
          go_roundg (0 + k)
          case measure => omega
          case rel => exact ⟨k, (k : Int) - 1, by omega, by omega, rfl, by go_num, rfl, by rw [HST.out]; exact H7.out⟩
        · have hjn2 : j = n := by omega
          subst hjn2
          have hlt : ¬ (j : Int) ≤ e := by omega
          clear h6
          go_wp2_with fail
          go_ret
          exact ⟨rfl, H6.out.below, by rw [← HE.out]; exact H6.out.set⟩
end Go.Proofs.YthgbmhpfblgjcaaGreatDoor.fl
