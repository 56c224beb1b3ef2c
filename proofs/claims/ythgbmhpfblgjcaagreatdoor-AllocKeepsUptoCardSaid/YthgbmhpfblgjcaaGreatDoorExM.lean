/-
  A function of three-address code as it stands in memory. No program's code in sight.
-/
import Derived.Test.YthgbmhpfblgjcaaGreatDoorExB
import Derived.Shelf.Abstract
set_option linter.unusedVariables false
set_option linter.unusedSimpArgs false
namespace Go.Proofs.YthgbmhpfblgjcaaGreatDoor.fl
open Go.RowKit Go.Shelf
open M T ty
set_option linter.unusedVariables false
theorem rd_int {w : World} {B : Nat} {A : Option Addr} {l : List Int} (h : Rd w B A (ints l)) {k : Nat} (hk : k < l.length) :
    ∃ ad p x, A = some ad ∧ l[k]? = some x ∧ ad.add k = p ∧ p.block < B ∧ w.cell? p = some (.int .i64 x) := by
  obtain ⟨ad, e, hb, hc⟩ := h (by intro h0; have h1 := ints_length l; rw [h0, List.length_nil] at h1; omega)
  refine ⟨ad, ad.add k, l[k], e, List.getElem?_eq_getElem hk, rfl, ?_, ?_⟩
  · rw [M.block_add]; exact hb
  · exact hc k _ (by simp [ints, List.getElem?_eq_getElem hk])
/-- a closure that captures one variable tells p, and writes nothing -/
def Tells (w : World) (c : FuncId) (q : Addr) (p : Int → Bool) : Prop := ∀ a W, Below w.heap.size w W → Calls Tryz.prog c #[.int .i64 a, .pointer (some q)] W fun e w' => e = .returned (.bool (p a)) ∧ Below W.heap.size W w'
set_option maxRecDepth 4000 in
set_option maxHeartbeats 1600000 in
theorem index_97 (c : FuncId) (hen : ∀ args W, (callFunc c args).run Tryz.prog W = .ok (.enter c args) W) (q : Addr) (p : Int → Bool) (A : Option Addr) (n cap : Nat) (l : List Int) (w : World) (hl : l.length = n) (hn : n ≤ maxLen) (hA : Rd w w.heap.size A (ints l)) (hC : Tells w c q p) :
    Calls Tryz.prog 97 #[.slice A n cap, .func (.func c) #[] #[.pointer (some q)]] w fun e w' => e = .returned (.int .i64 (if l.findIdx p < n then (l.findIdx p : Int) else -1)) ∧ Below w.heap.size w w' := by
  unfold maxLen at hn
  have Hl := Lib.hid hl
  have HA := Lib.hid hA
  have HC := Lib.hid hC
  clear hl hA hC
  generalize hans : (if l.findIdx p < n then (l.findIdx p : Int) else -1) = ans
  have Hans := Lib.hid hans
  clear hans
  go_enter Tryz.func97, Tryz.ntmps97
  go_wp2_with fail
  go_loopw [8] (fun i wr => ∃ (k : Nat), k ≤ n ∧ i = .int .i64 k ∧ k ≤ l.findIdx p ∧ Below w.heap.size w wr) (fun i _ => n - (intOf i).toNat)
  case atStart => exact ⟨0, by omega, rfl, by omega, Below.refl _ _⟩
  case round =>
    obtain ⟨k, hk, rfl, hi, hb⟩ := hrel
    have HB := Lib.hid hb
    have Hi := Lib.hid hi
    clear hb hi
    by_cases hlt : k < n
    · obtain ⟨ad, r, x, rfl, hxk, hp, -, a1⟩ := rd_int ((HA.out.below HB.out).more HB.out.size) (k := k) (by rw [Hl.out]; exact hlt)
      have hk' : k < l.length := by rw [Hl.out]; exact hlt
      have hx : l[k]'hk' = x := (List.getElem?_eq_some_iff.1 hxk).2
      have HCx := Lib.hid (HC.out x wr HB.out)
      cases hpx : p x with
      | true =>
        rw [hpx] at HCx
        have Hfin : Hid (ans = (k : Int)) := Lib.hid (by
          have h1 : l.findIdx p ≤ k := by
            rcases Nat.lt_or_ge k (l.findIdx p) with h | h
            · have := List.not_of_lt_findIdx h
              rw [hx, hpx] at this
              cases this
            · exact h
          have := Hi.out
          rw [← Hans.out, if_pos (by omega)]
          omega)
        clear hxk hx hpx hk'
        go_wp2_with fail
        refine HCx.out.mono ?_
        rintro e w2 ⟨rfl, hb2⟩
        go_wp2_with fail
        go_ret
        exact ⟨ret_int Hfin.out.symm, HB.out.trans (hb2.mono HB.out.size)⟩
      | false =>
        rw [hpx] at HCx
        have Hfin : Hid (k + 1 ≤ l.findIdx p) := Lib.hid (by
          have := Hi.out
          rcases Nat.lt_or_ge k (l.findIdx p) with h | h
          · exact h
          · have e : k = l.findIdx p := by omega
            have := List.findIdx_getElem (p := p) (xs := l) (w := by omega)
            simp only [← e] at this
            rw [hx, hpx] at this
            cases this)
        clear hxk hx hpx hk'
        go_wp2_with fail
        refine HCx.out.mono ?_
        rintro e w2 ⟨rfl, hb2⟩
        go_wp2_with fail
        go_roundw
        case rel => exact ⟨k + 1, by omega, by go_num, Hfin.out, HB.out.trans (hb2.mono HB.out.size)⟩
        case measure => simp [intOf]; omega
    · obtain rfl : k = n := by omega
      go_wp2_with fail
      go_ret
      exact ⟨ret_int (by have := Hi.out; rw [← Hans.out, if_neg (by omega)]), HB.out⟩
theorem contains_138 (c : FuncId) (hen : ∀ args W, (callFunc c args).run Tryz.prog W = .ok (.enter c args) W) (q : Addr) (p : Int → Bool) (A : Option Addr) (n cap : Nat) (l : List Int) (w : World) (hl : l.length = n) (hn : n ≤ maxLen) (hA : Rd w w.heap.size A (ints l)) (hC : Tells w c q p) :
    Calls Tryz.prog 138 #[.slice A n cap, .func (.func c) #[] #[.pointer (some q)]] w fun e w' => e = .returned (.bool (l.any p)) ∧ Below w.heap.size w w' := by
  have HI := Lib.hid (index_97 c hen q p A n cap l w hl hn hA hC)
  rw [show l.any p = decide (l.findIdx p < n) from by rw [← hl, Bool.eq_iff_iff, decide_eq_true_iff, List.any_eq_true, List.findIdx_lt_length]]
  by_cases h : l.findIdx p < n
  · rw [if_pos h] at HI
    rw [show decide (l.findIdx p < n) = true from by simp [h]]
    clear hl hn hA hC
    generalize l.findIdx p = k at *
    clear h
    go_enter Tryz.func138, Tryz.ntmps138
    go_wp2_with (go_at_call 97; refine HI.out.mono ?_; rintro e w1 ⟨rfl, hb⟩)
    go_ret
    exact ⟨rfl, hb⟩
  · rw [if_neg h] at HI
    rw [show decide (l.findIdx p < n) = false from by simp [h]]
    clear hl hn hA hC h
    go_enter Tryz.func138, Tryz.ntmps138
    go_wp2_with (go_at_call 97; refine HI.out.mono ?_; rintro e w1 ⟨rfl, hb⟩)
    go_ret
    exact ⟨rfl, hb⟩
/-- bounds stand in a block -/
def BoundsAt (W : World) (p : Nat) (R sl st : Int) : Prop := W.heap[p]? = some (.cells #[.int .i64 R, .int .i64 sl, .int .i64 st] 177 (0, 0))
theorem clos_139 (R sl st a : Int) (p : Nat) (w : World) (h : BoundsAt w p R sl st) : Calls Tryz.prog 139 #[.int .i64 a, .pointer (some ⟨p, 0, none⟩)] w fun e w' => e = .returned (.bool (!regB R a true false)) ∧ Below w.heap.size w w' := by
  have c0 := Go.Joins.cell_of_block h 0
  have c1 := Go.Joins.cell_of_block h 1
  have c2 := Go.Joins.cell_of_block h 2
  have HR := Lib.hid (reg_137 R sl st a true false w)
  clear h
  go_enter Tryz.func139, Tryz.ntmps139
  go_wp2_with (go_at_call 137; refine HR.out.mono ?_; rintro e w1 ⟨rfl, hb⟩)
  go_ret
  exact ⟨rfl, hb⟩
/-- does some argument not fit? -/
theorem args_138 (R sl st : Int) (p : Nat) (A : Option Addr) (n cap : Nat) (l : List Int) (w : World) (h : BoundsAt w p R sl st) (hl : l.length = n) (hn : n ≤ maxLen) (hA : Rd w w.heap.size A (ints l)) :
    Calls Tryz.prog 138 #[.slice A n cap, .func (.func 139) #[] #[.pointer (some ⟨p, 0, none⟩)]] w fun e w' => e = .returned (.bool (!l.all (fun a => regB R a true false))) ∧ Below w.heap.size w w' := by
  have := contains_138 139 (enters_of Tryz.func139 (by kernel_rfl) rfl) ⟨p, 0, none⟩ (fun a => !regB R a true false) A n cap l w hl hn hA (fun a W hb => clos_139 R sl st a p W ((hb.block p (Array.getElem?_eq_some_iff.1 h).1).trans h))
  rw [show (l.any fun a => !regB R a true false) = !l.all (fun a => regB R a true false) from by rw [List.all_eq_not_any_not, Bool.not_not]] at this
  exact this
end Go.Proofs.YthgbmhpfblgjcaaGreatDoor.fl
namespace Go.Proofs.YthgbmhpfblgjcaaGreatDoor.fl
open Go.RowKit Go.Shelf
open M T ty
set_option linter.unusedVariables false
def opCells (o : Op) (AA : Option Addr) (ac : Nat) : List Value := [.int .i64 o.k, .int .i64 o.d, .int .i64 o.a, .int .i64 o.b, .int .i64 o.imm, .string o.text, .slice AA o.args.length ac]
def blCells (x : Bl) (OA : Option Addr) (oc : Nat) : List Value := [.slice OA x.ops.length oc, .int .i64 x.ex.k, .int .i64 x.ex.a, .int .i64 x.ex.d, .int .i64 x.ex.to, .int .i64 x.ex.els]
def slotCells (s : Slot) : List Value := [.int .i64 s.bytes, .int .i64 s.align, .bool s.vol]
/-- operations stand from A on, below block B -/
structure OpsAt (W : World) (B : Nat) (A : Option Addr) (l : List Op) (AA : Nat → Option Addr) (ac : Nat → Nat) : Prop where
  row : 0 < l.length → ∃ ad, A = some ad ∧ ad.block < B ∧ ∀ j o, l[j]? = some o → ∀ r v, (opCells o (AA j) (ac j))[r]? = some v → W.cell? (ad.add (j * 7 + r)) = some v
  args : ∀ j o, l[j]? = some o → Rd W B (AA j) (ints o.args)
/-- blocks stand from A on, below block B -/
structure BlsAt (W : World) (B : Nat) (A : Option Addr) (l : List Bl) (OA : Nat → Option Addr) (oc : Nat → Nat) (AA : Nat → Nat → Option Addr) (ac : Nat → Nat → Nat) : Prop where
  row : 0 < l.length → ∃ ad, A = some ad ∧ ad.block < B ∧ ∀ j x, l[j]? = some x → ∀ r v, (blCells x (OA j) (oc j))[r]? = some v → W.cell? (ad.add (j * 6 + r)) = some v
  ops : ∀ j x, l[j]? = some x → OpsAt W B (OA j) x.ops (AA j) (ac j)
/-- slots stand from A on, below block B -/
def SlotsAt (W : World) (B : Nat) (A : Option Addr) (l : List Slot) : Prop :=
  0 < l.length → ∃ ad, A = some ad ∧ ad.block < B ∧ ∀ j x, l[j]? = some x → ∀ r v, (slotCells x)[r]? = some v → W.cell? (ad.add (j * 3 + r)) = some v
/-- where a function's parts stand -/
structure FLay where
  (SA : Option Addr) (sc : Nat) (BA : Option Addr) (bc : Nat) (OA : Nat → Option Addr) (oc : Nat → Nat) (AA : Nat → Nat → Option Addr) (ac : Nat → Nat → Nat)
/-- what a function's value is -/
def fnCells (f : Fn) (L : FLay) : List Value := [.string f.name, .int .i64 f.params, .int .i64 f.regs, .slice L.SA f.slots.length L.sc, .slice L.BA f.bl.length L.bc]
def fnV (f : Fn) (L : FLay) : Value := .agg #[.string f.name, .int .i64 f.params, .int .i64 f.regs, .slice L.SA f.slots.length L.sc, .slice L.BA f.bl.length L.bc]
/-- a function stands below block B -/
structure FnAt (W : World) (B : Nat) (f : Fn) (L : FLay) : Prop where
  slots : SlotsAt W B L.SA f.slots
  bls : BlsAt W B L.BA f.bl L.OA L.oc L.AA L.ac
/-- a function's parts are no longer than they may be -/
structure FnOk (f : Fn) : Prop where
  name : f.name.size ≤ maxLen
  slots : f.slots.length ≤ maxLen
  bl : f.bl.length ≤ maxLen
  ops : ∀ x ∈ f.bl, x.ops.length ≤ maxLen ∧ ∀ o ∈ x.ops, o.text.size ≤ maxLen ∧ o.args.length ≤ maxLen
section
variable {W W' : World} {B B' : Nat} {A : Option Addr} {f : Fn} {L : FLay}
theorem OpsAt.keep {l : List Op} {AA : Nat → Option Addr} {ac : Nat → Nat} (h : OpsAt W B A l AA ac) (hk : ∀ p : Addr, p.block < B → W'.cell? p = W.cell? p) (hB : B ≤ B') : OpsAt W' B' A l AA ac := by
  refine ⟨fun h0 => ?_, fun j o ho => ?_⟩
  · obtain ⟨ad, e, hb, hc⟩ := h.row h0
    exact ⟨ad, e, Nat.lt_of_lt_of_le hb hB, fun j o ho r v hv => (hk _ (by rw [M.block_add]; exact hb)).trans (hc j o ho r v hv)⟩
  · exact ((h.args j o ho).keep hk).more hB
theorem BlsAt.keep {l : List Bl} {OA : Nat → Option Addr} {oc : Nat → Nat} {AA : Nat → Nat → Option Addr} {ac : Nat → Nat → Nat} (h : BlsAt W B A l OA oc AA ac) (hk : ∀ p : Addr, p.block < B → W'.cell? p = W.cell? p) (hB : B ≤ B') : BlsAt W' B' A l OA oc AA ac := by
  refine ⟨fun h0 => ?_, fun j x hx => (h.ops j x hx).keep hk hB⟩
  obtain ⟨ad, e, hb, hc⟩ := h.row h0
  exact ⟨ad, e, Nat.lt_of_lt_of_le hb hB, fun j o ho r v hv => (hk _ (by rw [M.block_add]; exact hb)).trans (hc j o ho r v hv)⟩
theorem SlotsAt.keep {l : List Slot} (h : SlotsAt W B A l) (hk : ∀ p : Addr, p.block < B → W'.cell? p = W.cell? p) (hB : B ≤ B') : SlotsAt W' B' A l := fun h0 => by
  obtain ⟨ad, e, hb, hc⟩ := h h0
  exact ⟨ad, e, Nat.lt_of_lt_of_le hb hB, fun j o ho r v hv => (hk _ (by rw [M.block_add]; exact hb)).trans (hc j o ho r v hv)⟩
theorem FnAt.keep (h : FnAt W B f L) (hk : ∀ p : Addr, p.block < B → W'.cell? p = W.cell? p) (hB : B ≤ B') : FnAt W' B' f L := ⟨h.slots.keep hk hB, h.bls.keep hk hB⟩
theorem FnAt.below (h : FnAt W B f L) (hb : Below B W W') : FnAt W' B f L := h.keep (fun p hp => hb.cell hp) (Nat.le_refl _)
theorem FnAt.after (h : FnAt W W.heap.size f L) (hb : Below W.heap.size W W') : FnAt W' W'.heap.size f L := h.keep (fun p hp => hb.cell hp) hb.size
theorem OpsAt.after {l : List Op} {AA : Nat → Option Addr} {ac : Nat → Nat} (h : OpsAt W W.heap.size A l AA ac) (hb : Below W.heap.size W W') : OpsAt W' W'.heap.size A l AA ac := h.keep (fun p hp => hb.cell hp) hb.size
theorem BlsAt.after {l : List Bl} {OA : Nat → Option Addr} {oc : Nat → Nat} {AA : Nat → Nat → Option Addr} {ac : Nat → Nat → Nat} (h : BlsAt W W.heap.size A l OA oc AA ac) (hb : Below W.heap.size W W') : BlsAt W' W'.heap.size A l OA oc AA ac := h.keep (fun p hp => hb.cell hp) hb.size
theorem op_at {l : List Op} {AA : Nat → Option Addr} {ac : Nat → Nat} (h : OpsAt W B A l AA ac) {k : Nat} (hk : k < l.length) : ∃ ad p x, A = some ad ∧ l[k]? = some x ∧ ad.add (k * 7) = p ∧ p.block < B ∧ W.cell? p = some (.int .i64 x.k) ∧ W.cell? ⟨p.block, p.off + 1, none⟩ = some (.int .i64 x.d) ∧ W.cell? ⟨p.block, p.off + 2, none⟩ = some (.int .i64 x.a) ∧ W.cell? ⟨p.block, p.off + 3, none⟩ = some (.int .i64 x.b) ∧ W.cell? ⟨p.block, p.off + 4, none⟩ = some (.int .i64 x.imm) ∧ W.cell? ⟨p.block, p.off + 5, none⟩ = some (.string x.text) ∧ W.cell? ⟨p.block, p.off + 6, none⟩ = some (.slice (AA k) x.args.length (ac k)) := by
  obtain ⟨ad, e, hb, hc⟩ := h.row (by omega)
  have hg : l[k]? = some l[k] := List.getElem?_eq_getElem hk
  have key : ∀ (r : Nat) (v : Value), (opCells l[k] (AA k) (ac k))[r]? = some v → W.cell? ((ad.add (k * 7)).add r) = some v := fun r v hv => by
    rw [M.add_add]
    exact hc k _ hg r v hv
  have k0 := key 0 _ rfl
  have e0 : (ad.add (k * 7)).add 0 = ad.add (k * 7) := rfl
  rw [e0] at k0
  exact ⟨ad, _, _, e, hg, rfl, by rw [M.block_add]; exact hb, k0, key 1 _ rfl, key 2 _ rfl, key 3 _ rfl, key 4 _ rfl, key 5 _ rfl, key 6 _ rfl⟩
theorem bl_at {l : List Bl} {OA : Nat → Option Addr} {oc : Nat → Nat} {AA : Nat → Nat → Option Addr} {ac : Nat → Nat → Nat} (h : BlsAt W B A l OA oc AA ac) {k : Nat} (hk : k < l.length) : ∃ ad p x, A = some ad ∧ l[k]? = some x ∧ ad.add (k * 6) = p ∧ p.block < B ∧ W.cell? p = some (.slice (OA k) x.ops.length (oc k)) ∧ W.cell? ⟨p.block, p.off + 1, none⟩ = some (.int .i64 x.ex.k) ∧ W.cell? ⟨p.block, p.off + 2, none⟩ = some (.int .i64 x.ex.a) ∧ W.cell? ⟨p.block, p.off + 3, none⟩ = some (.int .i64 x.ex.d) ∧ W.cell? ⟨p.block, p.off + 4, none⟩ = some (.int .i64 x.ex.to) ∧ W.cell? ⟨p.block, p.off + 5, none⟩ = some (.int .i64 x.ex.els) := by
  obtain ⟨ad, e, hb, hc⟩ := h.row (by omega)
  have hg : l[k]? = some l[k] := List.getElem?_eq_getElem hk
  have key : ∀ (r : Nat) (v : Value), (blCells l[k] (OA k) (oc k))[r]? = some v → W.cell? ((ad.add (k * 6)).add r) = some v := fun r v hv => by
    rw [M.add_add]
    exact hc k _ hg r v hv
  have k0 := key 0 _ rfl
  have e0 : (ad.add (k * 6)).add 0 = ad.add (k * 6) := rfl
  rw [e0] at k0
  exact ⟨ad, _, _, e, hg, rfl, by rw [M.block_add]; exact hb, k0, key 1 _ rfl, key 2 _ rfl, key 3 _ rfl, key 4 _ rfl, key 5 _ rfl⟩
theorem slot_at {l : List Slot} (h : SlotsAt W B A l) {k : Nat} (hk : k < l.length) : ∃ ad p x, A = some ad ∧ l[k]? = some x ∧ ad.add (k * 3) = p ∧ p.block < B ∧ W.cell? p = some (.int .i64 x.bytes) ∧ W.cell? ⟨p.block, p.off + 1, none⟩ = some (.int .i64 x.align) ∧ W.cell? ⟨p.block, p.off + 2, none⟩ = some (.bool x.vol) := by
  obtain ⟨ad, e, hb, hc⟩ := h (by omega)
  have hg : l[k]? = some l[k] := List.getElem?_eq_getElem hk
  have key : ∀ (r : Nat) (v : Value), (slotCells l[k])[r]? = some v → W.cell? ((ad.add (k * 3)).add r) = some v := fun r v hv => by
    rw [M.add_add]
    exact hc k _ hg r v hv
  have k0 := key 0 _ rfl
  have e0 : (ad.add (k * 3)).add 0 = ad.add (k * 3) := rfl
  rw [e0] at k0
  exact ⟨ad, _, _, e, hg, rfl, by rw [M.block_add]; exact hb, k0, key 1 _ rfl, key 2 _ rfl⟩
end
end Go.Proofs.YthgbmhpfblgjcaaGreatDoor.fl
