/-
  The third closure of Clash, as each calls it. Condition: the map stands.
-/
import Derived.Test.YthgbmhpfblgjcaaGreatDoorFlU
import Derived.Maps.Own
import Derived.Maps.OwnOps
import Derived.Maps.OwnSet
import Derived.Maps.Views
import Derived.Maps.RangeWalk
import Derived.Laws.EntriesVeiled
set_option linter.unusedVariables false
set_option linter.unusedSimpArgs false
namespace Go.Proofs.YthgbmhpfblgjcaaGreatDoor.fl
open Go.RowKit Go.Shelf
open M T ty
set_option linter.unusedVariables false
abbrev Dat := DataW Unit
/-- how an element of the map reads: its block -/
def Rp : Value → Option (Dat × List MemPlace)
  | .pointer none => some (.nil, [])
  | .pointer (some ⟨b, 0, none⟩) => some (.lit (.int .i64 (b : Nat)), [])
  | _ => none
def codeP (b : Nat) : Dat := .lit (.int .i64 (b : Nat))
def ptrO : Option Nat → Value
  | none => .pointer none
  | some b => ptrV b
theorem Rp_ptr (b : Nat) : Rp (ptrV b) = some (codeP b, []) := rfl
theorem Rp_nil {v : Value} {ps : List MemPlace} (h : Rp v = some (.nil, ps)) : v = .pointer none := by
  unfold Rp at h
  split at h
  · rfl
  · cases h
  · cases h
theorem Rp_code {v : Value} {b : Nat} {ps : List MemPlace} (h : Rp v = some (codeP b, ps)) : v = ptrV b := by
  unfold Rp codeP at h
  split at h
  · cases h
  · rename_i b'
    simp only [Option.some.injEq, Prod.mk.injEq, DataW.lit.injEq, Lit.int.injEq] at h
    have : b' = b := by omega
    subst this
    rfl
  · cases h
theorem key3 : Maps.Keyed Tryz.prog 3 := Maps.int_keyed Tryz.underlying3
theorem zero64 : (Tryz.prog.info? 64).map (fun i => (i.zero, i.size)) = some (some (.pointer none), 1) := by kernel_rfl
theorem wf_in {x : Int} (i0 : -9223372036854775808 ≤ x) (i1 : x ≤ 9223372036854775807) : (Lit.int .i64 x).wf = true := by
  simp only [Lit.wf, IntKind.min, IntKind.max, IntKind.signed, IntKind.bits, Bool.and_eq_true, decide_eq_true_eq, if_true]
  omega
/-- the map stands in block mb, its variables in the three behind; C is what it tells -/
structure MapC (mb fb r : Nat) (C : Cl) (T : Int → Option Nat) (pr : List Bool) (D : Dat) (n : Nat) (X : Nat → Prop) (W : World) : Prop where
  own : W.ownsMap Tryz.prog 3 Rp mb n D
  cnt : n + unseen pr ≤ r
  len : pr.length = r
  none : ∀ k, T k = none → ∀ zd, D.atKey (.int .i64 k) zd = zd
  some : ∀ k b, T k = some b → ∀ zd, D.atKey (.int .i64 k) zd = codeP b
  pre : ∀ k : Int, T k ≠ .none ↔ 0 ≤ k ∧ pr[k.toNat]? = .some true
  sets : ∀ k b, T k = .some b → SetAt W b (C k.toNat) r ∧ mb + 3 < b
  inj : ∀ k k' b, T k = .some b → T k' = .some b → k = k'
  zero : ∀ k : Nat, T k = .none → C k = 0
  lt : ∀ k, C k < 2 ^ r
  xs : ∀ g, X g ↔ (g = mb ∨ g = mb + 1 ∨ g = mb + 2 ∨ g = mb + 3 ∨ ∃ k, T k = .some g)
  vm : W.heap[mb + 1]? = .some (.cells #[.map (.some mb)] 76 (0, 0))
  vo : W.heap[mb + 2]? = .some (.cells #[.func (.func 27) #[] #[.pointer (.some ⟨mb + 1, 0, .none⟩), .pointer (.some ⟨fb, 0, .none⟩)]] 77 (0, 0))
  vw : W.heap[mb + 3]? = .some (.cells #[.func (.func 28) #[] #[.pointer (.some ⟨mb + 2, 0, .none⟩)]] 79 (0, 0))
section
variable {mb fb r : Nat} {C : Cl} {T : Int → Option Nat} {pr : List Bool} {D : Dat} {n : Nat} {X : Nat → Prop} {W W' : World}
theorem MapC.frame (h : MapC mb fb r C T pr D n X W) (hk : ∀ g, X g → W'.heap[g]? = W.heap[g]?) (hs : W.heap.size ≤ W'.heap.size) : MapC mb fb r C T pr D n X W' := by
  refine ⟨?_, h.cnt, h.len, h.none, h.some, h.pre, fun k b hb => ⟨(hk b ((h.xs b).2 (.inr (.inr (.inr (.inr ⟨k, hb⟩)))))).trans (h.sets k b hb).1, (h.sets k b hb).2⟩, h.inj, h.zero, h.lt, h.xs, (hk _ ((h.xs _).2 (by simp))).trans h.vm, (hk _ ((h.xs _).2 (by simp))).trans h.vo, (hk _ ((h.xs _).2 (by simp))).trans h.vw⟩
  obtain ⟨es, clock, h1, h2⟩ := h.own
  exact ⟨es, clock, (hk mb ((h.xs mb).2 (.inl rfl))).trans h1, h2⟩
theorem MapC.xlt (h : MapC mb fb r C T pr D n X W) (g : Nat) (hg : X g) : g < W.heap.size := by
  have h3 := (Array.getElem?_eq_some_iff.1 h.vw).1
  rcases (h.xs g).1 hg with rfl | rfl | rfl | rfl | ⟨k, hk⟩
  · omega
  · omega
  · omega
  · omega
  · exact (Array.getElem?_eq_some_iff.1 (h.sets k g hk).1).1
theorem MapC.look (h : MapC mb fb r C T pr D n X W) (k : Int) (h0 : 0 ≤ k) (h1 : k < 4096) : (Instr.lookup 76 (.map (Option.some mb)) (.int .i64 k) false).run Tryz.prog W = .ok (ptrO (T k)) W := by
  obtain ⟨hz, -⟩ := zero_of_info zero64
  obtain ⟨v, ps, hrun, hv⟩ := h.own.lookup key3 Tryz.underlying76 (hz W) (zd := .nil) (zp := []) rfl (Maps.keyOf_int_mk Tryz.underlying3 (wf_in (x := k) (by omega) (by omega)))
  rw [hrun]
  cases ht : T k with
  | none =>
    rw [h.none k ht] at hv
    rw [Rp_nil hv]
    rfl
  | some b =>
    rw [h.some k b ht] at hv
    rw [Rp_code hv]
    rfl
theorem MapC.new (h : MapC mb fb r C T pr D n X W) {k : Int} (h0 : 0 ≤ k) (h1 : k < r) (hT : T k = .none) {w2 : World} {D' : Dat} (ho : w2.ownsMap Tryz.prog 3 Rp mb (n + 1) (D.put (.int .i64 k) (codeP W.heap.size))) (hg : (W.alloc (.cells (setCells 0 (r : Int)).toArray 69)).grownBy w2 (Option.some mb)) (hD : D' = D.put (.int .i64 k) (codeP W.heap.size)) :
    MapC mb fb r C (fun k' => if k' = k then Option.some W.heap.size else T k') (pr.set k.toNat true) D' (n + 1) (fun g => X g ∨ g = W.heap.size) w2 := by
  subst hD
  have hkl : k.toNat < pr.length := by rw [h.len]; omega
  have hf : pr[k.toNat]? = Option.some false := by
    rw [List.getElem?_eq_getElem hkl]
    cases hp : pr[k.toNat] with
    | false => rfl
    | true => exact absurd hT ((h.pre k).2 ⟨h0, by rw [List.getElem?_eq_getElem hkl, hp]⟩)
  have hus := unseen_set pr k.toNat hf
  have hcnt := h.cnt
  have hmb := (Array.getElem?_eq_some_iff.1 h.vw).1
  have keep : ∀ g, g < W.heap.size → g ≠ mb → w2.heap[g]? = W.heap[g]? := fun g hg1 hg2 => (hg.block g (by simp; omega) (fun e => hg2 (Option.some.inj e))).trans (heap_alloc_lt W _ hg1)
  have hne : ∀ k' b, T k' = Option.some b → b ≠ W.heap.size ∧ k' ≠ k := fun k' b hb => ⟨fun e => by have := (Array.getElem?_eq_some_iff.1 (h.sets k' b hb).1).1; omega, fun e => by rw [e, hT] at hb; cases hb⟩
  refine ⟨ho, by omega, by simpa using h.len, fun k' hk' zd => ?_, fun k' b hb zd => ?_, fun k' => ?_, fun k' b hb => ?_, fun a b c ha hb => ?_, fun k' hk' => ?_, h.lt, fun g => ?_, ?_, ?_, ?_⟩
  · split at hk'
    · cases hk'
    · rename_i e
      rw [Maps.atKey_put_other (by intro e'; injection e' with _ e'; exact e e')]
      exact h.none k' hk' zd
  · split at hb
    · rename_i e
      subst e
      rw [Maps.atKey_put_same h.own.isMap (show WideAt.IsKeyLit (.int .i64 k') from trivial)]
      rw [← Option.some.inj hb]
    · rename_i e
      rw [Maps.atKey_put_other (by intro e'; injection e' with _ e'; exact e e')]
      exact h.some k' b hb zd
  · split
    · rename_i e
      subst e
      exact ⟨fun _ => ⟨h0, set_get hkl⟩, fun _ => by simp⟩
    · rename_i e
      rw [h.pre k']
      constructor
      · rintro ⟨a, b⟩
        exact ⟨a, set_true b hkl⟩
      · rintro ⟨a, b⟩
        refine ⟨a, ?_⟩
        rcases set_was b with b | b
        · omega
        · exact b
  · split at hb
    · rename_i e
      subst e
      have hb := Option.some.inj hb
      subst hb
      have hz : C k'.toNat = 0 := by
        have := h.zero k'.toNat
        rw [Int.toNat_of_nonneg h0] at this
        exact this hT
      rw [hz]
      refine ⟨(hg.block _ (by simp) (fun e => by have := Option.some.inj e; omega)).trans (heap_alloc_new W _), by omega⟩
    · obtain ⟨s1, s2⟩ := h.sets k' b hb
      exact ⟨(keep b (Array.getElem?_eq_some_iff.1 s1).1 (by omega)).trans s1, s2⟩
  · split at ha <;> split at hb
    · omega
    · exact absurd (Option.some.inj ha).symm (hne _ _ hb).1
    · exact absurd (Option.some.inj hb).symm (hne _ _ ha).1
    · exact h.inj a b c ha hb
  · split at hk'
    · cases hk'
    · exact h.zero k' hk'
  · rw [h.xs g]
    constructor
    · rintro ((h | h | h | h | ⟨k', hk'⟩) | rfl)
      · simp [h]
      · simp [h]
      · simp [h]
      · simp [h]
      · refine .inr (.inr (.inr (.inr ⟨k', ?_⟩)))
        rw [if_neg (hne _ _ hk').2]
        exact hk'
      · exact .inr (.inr (.inr (.inr ⟨k, by rw [if_pos rfl]⟩)))
    · rintro (h | h | h | h | ⟨k', hk'⟩)
      · simp [h]
      · simp [h]
      · simp [h]
      · simp [h]
      · split at hk'
        · exact .inr (Option.some.inj hk').symm
        · exact .inl (.inr (.inr (.inr (.inr ⟨k', hk'⟩))))
  · exact (keep _ (by omega) (by omega)).trans h.vm
  · exact (keep _ (by omega) (by omega)).trans h.vo
  · exact (keep _ (by omega) (by omega)).trans h.vw
/-- some map stands -/
def InvC (mb fb r : Nat) (C : Cl) (X : Nat → Prop) (W : World) : Prop := ∃ T pr D n, MapC mb fb r C T pr D n X W
end
set_option maxRecDepth 20000 in
set_option maxHeartbeats 8000000 in
theorem of_27 (mb fb r : Nat) (f : Fn) (L : FLay) (C : Cl) (T : Int → Option Nat) (pr : List Bool) (D : Dat) (n : Nat) (X : Nat → Prop) (W : World) (h : MapC mb fb r C T pr D n X W) (hfb : FBox W fb f L) (hreg : f.regs = (r : Int)) (hr : r ≤ 4096) (k : Int) (h0 : 0 ≤ k) (h1 : k < r) :
    Calls Tryz.prog 27 #[.int .i64 k, .pointer (some ⟨mb + 1, 0, none⟩), .pointer (some ⟨fb, 0, none⟩)] W fun e W' => ∃ b T' pr' D' n' X', e = .returned (ptrV b) ∧ MapC mb fb r C T' pr' D' n' X' W' ∧ T' k = some b ∧ Bes X W W' ∧ (∀ g, X' g → X g ∨ W.heap.size ≤ g) := by
  have hlk := h.look k h0 (by omega)
  have c0 := Go.Joins.cell_of_block h.vm 0
  have H := Lib.hid h
  cases hT : T k with
  | some b =>
    rw [hT] at hlk
    have HT := Lib.hid hT
    simp only [ptrO, ptrV] at hlk
    clear h hT
    go_enter Tryz.func27, Tryz.ntmps27
    go_wp2_with fail
    go_ret
    exact ⟨b, T, pr, D, n, X, rfl, H.out, HT.out, Bes.refl, fun g hg => .inl hg⟩
  | none =>
    rw [hT] at hlk
    simp only [ptrO] at hlk
    have HT := Lib.hid hT
    obtain ⟨-, -, c2, -, -⟩ := hfb.cells
    rw [hreg] at c2
    have hcn := h.cnt
    have hml := (Array.getElem?_eq_some_iff.1 h.vm).1
    have hfl := (Array.getElem?_eq_some_iff.1 hfb).1
    have hk9 := Maps.keyOf_int_mk Tryz.underlying3 (wf_in (x := k) (by omega) (by omega))
    have hnm : n < maxLen := by simp only [maxLen]; omega
    have HO := Lib.hid (h.own.alloc (.cells (setCells 0 (r : Int)).toArray 69))
    clear h hT hfb hreg
    go_enter Tryz.func27, Tryz.ntmps27
    go_wp2_with (first
      | (with_reducible change wpList _ _ _ ({ dst := _, op := .build 69 _, type := _, pos := _, after := _, guard := _ } :: _) _ _; refine wpList_set69 rfl _ rfl rfl ?_)
      | (at_mapUpdate; go_loud (refine wpList_mapUpdate_own _ rfl _ _ _ 76 rfl 3 64 key3 Tryz.underlying76 Rp mb n D rfl HO.out hnm _ _ _ rfl rfl hk9 _ [] (Rp_ptr W.heap.size) ?_); intro w2 ho2 hg2; have h2 := H.out.new h0 h1 HT.out ho2 hg2 rfl; have hl2 := h2.look k h0 (by omega); simp only [if_true, ptrO, ptrV] at hl2; have e0 := Go.Joins.cell_of_block h2.vm 0; have H2 := Lib.hid h2; have HG2 := Lib.hid hg2; clear h2 ho2 hg2))
    go_ret
    refine ⟨W.heap.size, _, _, _, _, _, rfl, H2.out, by rw [if_pos rfl], ?_, fun g hg => hg.elim .inl (fun h => .inr (by omega))⟩
    exact (Bes.of_below (X := X) ((Below.refl _ _).alloc (Nat.le_refl _) _)).trans (Bes.of_grown (X := X) HG2.out ((H.out.xs mb).2 (.inl rfl))) (fun g hg => .inl hg)
end Go.Proofs.YthgbmhpfblgjcaaGreatDoor.fl
namespace Go.Proofs.YthgbmhpfblgjcaaGreatDoor.fl
open Go.RowKit Go.Shelf
open M T ty
set_option linter.unusedVariables false
theorem clput_lt {C : Cl} {r d q : Nat} (h : ∀ k, C k < 2 ^ r) (hq : q < r) (k : Nat) : (C.put d q) k < 2 ^ r := by
  unfold Cl.put
  split
  · exact Nat.or_lt_two_pow (h k) (Nat.pow_lt_pow_right (by decide) hq)
  · exact h k
theorem MapC.put {mb fb r : Nat} {C : Cl} {T : Int → Option Nat} {pr : List Bool} {D : Dat} {n : Nat} {X : Nat → Prop} {W W' : World} (h : MapC mb fb r C T pr D n X W) {d q b : Nat} (hb : T d = .some b) (hq : q < r) (hg : W.grownBy W' (Option.some b)) (hs : SetAt W' b (C d ||| 2 ^ q) r) :
    MapC mb fb r (C.put d q) T pr D n X W' := by
  have hbm := (h.sets d b hb).2
  have hml := (Array.getElem?_eq_some_iff.1 h.vw).1
  have hown : W'.ownsMap Tryz.prog 3 Rp mb n D := by
    obtain ⟨es, clock, h1, h2⟩ := h.own
    exact ⟨es, clock, (hg.block mb (by omega) (fun e => by have := Option.some.inj e; omega)).trans h1, h2⟩
  refine ⟨hown, h.cnt, h.len, h.none, h.some, h.pre, fun k b' hb' => ?_, h.inj, fun k hk => ?_, clput_lt h.lt hq, h.xs, ?_, ?_, ?_⟩
  · obtain ⟨s1, s2⟩ := h.sets k b' hb'
    refine ⟨?_, s2⟩
    by_cases e : k = d
    · subst e
      rw [hb] at hb'
      have := Option.some.inj hb'
      subst this
      rw [Int.toNat_natCast]
      unfold Cl.put
      rw [if_pos rfl]
      exact hs
    · have hne : b' ≠ b := fun e' => e (h.inj k d b' hb' (by rw [e']; exact hb))
      have hk0 := ((h.pre k).1 (by rw [hb']; simp)).1
      unfold Cl.put
      rw [if_neg (by omega)]
      exact (hg.block _ (Array.getElem?_eq_some_iff.1 s1).1 (fun e' => hne (Option.some.inj e'))).trans s1
  · have : k ≠ d := fun e => by rw [e, hb] at hk; cases hk
    unfold Cl.put
    rw [if_neg this]
    exact h.zero k hk
  · exact (hg.block _ (by omega) (fun e => by have := Option.some.inj e; omega)).trans h.vm
  · exact (hg.block _ (by omega) (fun e => by have := Option.some.inj e; omega)).trans h.vo
  · exact (hg.block _ (by omega) (fun e => by have := Option.some.inj e; omega)).trans h.vw
theorem InvC.frame {mb fb r : Nat} {C : Cl} {X : Nat → Prop} {W W' : World} (h : InvC mb fb r C X W) (hk : ∀ g, X g → W'.heap[g]? = W.heap[g]?) (hs : W.heap.size ≤ W'.heap.size) : InvC mb fb r C X W' := by
  obtain ⟨T, pr, D, n, h⟩ := h
  exact ⟨T, pr, D, n, h.frame hk hs⟩
theorem InvC.xlt {mb fb r : Nat} {C : Cl} {X : Nat → Prop} {W : World} (h : InvC mb fb r C X W) (g : Nat) (hg : X g) : g < W.heap.size := by
  obtain ⟨T, pr, D, n, h⟩ := h
  exact h.xlt g hg
theorem InvC.xge {mb fb r : Nat} {C : Cl} {X : Nat → Prop} {W : World} (h : InvC mb fb r C X W) (g : Nat) (hg : X g) : mb ≤ g := by
  obtain ⟨T, pr, D, n, h⟩ := h
  rcases (h.xs g).1 hg with rfl | rfl | rfl | rfl | ⟨k, hk⟩
  · omega
  · omega
  · omega
  · omega
  · have := (h.sets k g hk).2; omega
theorem InvC.vars {mb fb r : Nat} {C : Cl} {X : Nat → Prop} {W : World} (h : InvC mb fb r C X W) : W.cell? ⟨mb + 1, 0, none⟩ = some (.map (some mb)) ∧ W.cell? ⟨mb + 2, 0, none⟩ = some (.func (.func 27) #[] #[.pointer (some ⟨mb + 1, 0, none⟩), .pointer (some ⟨fb, 0, none⟩)]) ∧ W.cell? ⟨mb + 3, 0, none⟩ = some (.func (.func 28) #[] #[.pointer (some ⟨mb + 2, 0, none⟩)]) := by
  obtain ⟨T, pr, D, n, h⟩ := h
  exact ⟨Go.Joins.cell_of_block h.vm 0, Go.Joins.cell_of_block h.vo 0, Go.Joins.cell_of_block h.vw 0⟩
def wrAt (d : Nat) (but : Int) (l : List Int) (j : Nat) (C : Cl) : Cl := (l.take j).foldl (wr1 d but) C
theorem wrAt_succ {d : Nat} {but : Int} {l : List Int} {j : Nat} {C : Cl} {y : Int} (h : l[j]? = some y) : wrAt d but l (j + 1) C = wr1 d but (wrAt d but l j C) y := by
  unfold wrAt
  rw [List.take_add_one, h, List.foldl_append]
  rfl
theorem wr_at (d : Nat) (but : Int) (m : Nat) (C : Cl) : wr d but m C = wrAt d but (list m) (list m).length C := by
  unfold wr wrAt
  rw [List.take_length]
/-- the map is told one pair more: of and put -/
structure EnvC (w1 W : World) (mb fb r : Nat) (C : Cl) (X X' : Nat → Prop) (f : Fn) (L : FLay) : Prop where
  inv : InvC mb fb r C X' W
  bes : Bes X w1 W
  sub : ∀ g, X' g → X g ∨ w1.heap.size ≤ g
  box : FBox W fb f L
  flt : fb < mb
section
variable {w1 W W' : World} {mb fb r : Nat} {C : Cl} {X X' X2 : Nat → Prop} {f : Fn} {L : FLay}
theorem EnvC.of (h : EnvC w1 W mb fb r C X X' f L) {T : Int → Option Nat} {pr : List Bool} {D : Dat} {n : Nat} (hm : MapC mb fb r C T pr D n X2 W') (hb : Bes X' W W') (hs : ∀ g, X2 g → X' g ∨ W.heap.size ≤ g) : EnvC w1 W' mb fb r C X X2 f L := by
  have hfl := (Array.getElem?_eq_some_iff.1 h.box).1
  have hsz := h.bes.size
  refine ⟨⟨T, pr, D, n, hm⟩, h.bes.trans hb h.sub, fun g hg => (hs g hg).elim (h.sub g) (fun h => .inr (by omega)), (hb.block fb hfl (fun hx => ?_)).trans h.box, h.flt⟩
  have := h.inv.xge fb hx
  have := h.flt
  omega
theorem EnvC.put (h : EnvC w1 W mb fb r C X X' f L) {T : Int → Option Nat} {pr : List Bool} {D : Dat} {n d q b : Nat} (hm : MapC mb fb r C T pr D n X' W) (hb : T d = some b) (hq : q < r) (hg : W.grownBy W' (some b)) (hs : SetAt W' b (C d ||| 2 ^ q) r) : EnvC w1 W' mb fb r (C.put d q) X X' f L := by
  have hfl := (Array.getElem?_eq_some_iff.1 h.box).1
  have hxb : X' b := (hm.xs b).2 (.inr (.inr (.inr (.inr ⟨d, hb⟩))))
  have hb2 := (hm.sets d b hb).2
  have := h.flt
  exact ⟨⟨T, pr, D, n, hm.put hb hq hg hs⟩, h.bes.trans (Bes.of_grown (X := X') hg hxb) h.sub, h.sub, (hg.block fb hfl (fun e => by have := Option.some.inj e; omega)).trans h.box, h.flt⟩
end
/-- of and put, one behind the other -/
theorem of_any (mb fb r : Nat) (f : Fn) (L : FLay) (C : Cl) (X X' : Nat → Prop) (w1 W : World) (h : EnvC w1 W mb fb r C X X' f L) (hreg : f.regs = (r : Int)) (hr : r ≤ 4096) (d : Nat) (hd : d < r) :
    Calls Tryz.prog 27 #[.int .i64 d, .pointer (some ⟨mb + 1, 0, none⟩), .pointer (some ⟨fb, 0, none⟩)] W fun e W' => ∃ b X2, e = .returned (.pointer (some ⟨b, 0, none⟩)) ∧ EnvC w1 W' mb fb r C X X2 f L ∧
      ∀ q : Nat, q < r → Calls Tryz.prog 29 #[.pointer (some ⟨b, 0, none⟩), .int .i64 q] W' fun e W2 => e = .returned (.tuple #[]) ∧ EnvC w1 W2 mb fb r (C.put d q) X X2 f L := by
  obtain ⟨T, pr, D, n, hm⟩ := h.inv
  refine (of_27 mb fb r f L C T pr D n X' W hm h.box hreg hr d (by omega) (by omega)).mono ?_
  rintro e W' ⟨b, T', pr', D', n', X2, rfl, hm', hT', hb', hs'⟩
  have h2 := h.of hm' hb' hs'
  refine ⟨b, X2, rfl, h2, fun q hq => ?_⟩
  have hset := (hm'.sets d b hT').1
  rw [Int.toNat_natCast] at hset
  refine (put_29 b (C d) r q W' (by omega) hset).mono ?_
  rintro e W2 ⟨rfl, hg2, hs2⟩
  exact ⟨rfl, h2.put hm' hT' hq hg2 hs2⟩
set_option maxRecDepth 20000 in
set_option maxHeartbeats 8000000 in
theorem wr_28 (mb fb r : Nat) (f : Fn) (L : FLay) (C : Cl) (X : Nat → Prop) (W : World) (h : InvC mb fb r C X W) (hfb : FBox W fb f L) (hflt : fb < mb) (hreg : f.regs = (r : Int)) (hr : r ≤ 4096) (hT : Tabs W) (d : Nat) (hd : d < r) (but : Int) (lv m : Nat) (hs : SetAt W lv m r) (hm : m < 2 ^ r) :
    Calls Tryz.prog 28 #[.int .i64 d, .int .i64 but, .pointer (some ⟨lv, 0, none⟩), .pointer (some ⟨mb + 2, 0, none⟩)] W fun e W' => e = .returned (.tuple #[]) ∧ ∃ X', InvC mb fb r (wr d but m C) X' W' ∧ Bes X W W' ∧ ∀ g, X' g → X g ∨ W.heap.size ≤ g := by
  have HLS := Lib.hid (list_any lv m r W hr hm hT hs)
  have HBD := Lib.hid (fun n (hn : n ∈ list m) => list_bd hm hn)
  have hll := list_len m
  have H := Lib.hid h
  have HFB := Lib.hid hfb
  have HREG := Lib.hid hreg
  have hfl := (Array.getElem?_eq_some_iff.1 hfb).1
  rw [wr_at]
  clear h hfb hT hs hm hreg
  generalize list m = l at *
  go_enter Tryz.func28, Tryz.ntmps28
  go_wp2_with (go_at_call 26; refine HLS.out.mono ?_; rintro e w1 ⟨v, rfl, hv, hb1⟩; obtain ⟨A, c, rfl, ho⟩ := hv; have HRD := Lib.hid (RdP.of_own ho); have hws := hb1.size; have HE1 : Hid (EnvC w1 w1 mb fb r C X X f L) := Lib.hid ⟨H.out.frame (fun g hg => hb1.block g (H.out.xlt g hg)) hb1.size, Bes.refl, fun g hg => .inl hg, (hb1.block fb hfl).trans HFB.out, hflt⟩; have HB1 := Lib.hid hb1; clear ho hb1)
  go_loopg [12] l.length (fun N t wr => ∃ j X', j ≤ l.length ∧ N = l.length - j ∧ t = .int .i64 j ∧ EnvC w1 wr mb fb r (wrAt d but l j C) X X' f L)
  case atStart => exact ⟨0, X, by omega, rfl, rfl, HE1.out⟩
  case round =>
    obtain ⟨j, X4, hj, rfl, rfl, h4⟩ := hrel
    clear HE1
    have H4 := Lib.hid h4
    by_cases hlj : j < l.length
    · have hljI : (j : Int) < (l.length : Int) := by omega
      obtain ⟨ad2, p2, y, rfl, hy, hp2, -, b0⟩ := rd_int (l := l) (B := w1.heap.size) (w := wr) (A := A) (HRD.out.keep (P' := fun g => g < w1.heap.size) fun g hg => ⟨hg.2, h4.bes.block g hg.2 (fun hx => by have := H.out.xlt g hx; omega)⟩) hlj
      obtain ⟨y0, y1⟩ := HBD.out y (List.mem_of_getElem? hy)
      obtain ⟨q, rfl⟩ := Int.eq_ofNat_of_zero_le y0
      have hq : q < r := by omega
      have HS := Lib.hid (wrAt_succ (d := d) (but := but) (C := C) hy)
      obtain ⟨-, v2, -⟩ := h4.inv.vars
      by_cases hcond : (q : Int) ≠ (d : Int) ∧ (q : Int) ≠ but
      · have hw1 : wr1 d but (wrAt d but l j C) (q : Int) = ((wrAt d but l j C).put d q).put q d := by
          unfold wr1
          rw [if_pos hcond, Int.toNat_natCast]
        have HW := Lib.hid (HS.out.trans hw1)
        have hn1 : ((q : Int) != (d : Int)) = true := by simpa using hcond.1
        have hn2 : ((q : Int) != but) = true := by simpa using hcond.2
        have HO := Lib.hid (of_any mb fb r f L (wrAt d but l j C) X X4 w1 wr h4 HREG.out hr d hd)
        clear h4 hy hcond hw1
        go_wp2_with (first
          | (go_at_call 27; refine HO.out.mono ?_; rintro e w5 ⟨b5, X5, rfl, h5, hp5⟩; have HP5 := Lib.hid (hp5 q hq); clear h5 hp5 HO)
          | (go_at_call 29; refine HP5.out.mono ?_; rintro e w6 ⟨rfl, h6⟩; have HO6 := Lib.hid (of_any mb fb r f L _ X X5 w1 w6 h6 HREG.out hr q hq); clear v2; obtain ⟨-, v2, -⟩ := h6.inv.vars; clear h6 HP5)
          | (go_at_call 27; refine HO6.out.mono ?_; rintro e w7 ⟨b7, X7, rfl, h7, hp7⟩; have HP7 := Lib.hid (hp7 d hd); clear h7 hp7 HO6)
          | (go_at_call 29; refine HP7.out.mono ?_; rintro e w8 ⟨rfl, h8⟩; have H8 := Lib.hid h8; clear h8 HP7))
        go_roundg (l.length - (j + 1))
        case measure => omega
        case rel => exact ⟨j + 1, X7, by omega, rfl, by go_num, by rw [HW.out]; exact H8.out⟩
      · have hw1 : wr1 d but (wrAt d but l j C) (q : Int) = wrAt d but l j C := by
          unfold wr1
          rw [if_neg hcond]
        have HW := Lib.hid (HS.out.trans hw1)
        have hcs : ((q : Int) != (d : Int)) = false ∨ (((q : Int) != (d : Int)) = true ∧ ((q : Int) != but) = false) := by
          by_cases e : (q : Int) = (d : Int)
          · exact .inl (by simpa using e)
          · exact .inr ⟨by simpa using e, by
              by_cases e2 : (q : Int) = but
              · simpa using e2
              · exact absurd ⟨e, e2⟩ hcond⟩
        clear h4 hy hcond hw1
        rcases hcs with hn1 | ⟨hn1, hn2⟩
        all_goals
          go_wp2_with fail
          go_roundg (l.length - (j + 1))
          case measure => omega
          case rel => exact ⟨j + 1, X4, by omega, rfl, by go_num, by rw [HW.out]; exact H4.out⟩
    · obtain rfl : j = l.length := by omega
      clear h4
      go_wp2_with fail
      go_end0
      exact ⟨rfl, X4, H4.out.inv, (Bes.of_below (X := X) HB1.out).trans H4.out.bes (fun g hg => .inl hg), fun g hg => (H4.out.sub g hg).elim .inl (fun h => .inr (by have := HB1.out.size; omega))⟩
end Go.Proofs.YthgbmhpfblgjcaaGreatDoor.fl
namespace Go.Proofs.YthgbmhpfblgjcaaGreatDoor.fl
open Go.RowKit Go.Shelf
open M T ty
set_option linter.unusedVariables false
set_option maxRecDepth 20000 in
set_option maxHeartbeats 8000000 in
theorem clos_30 (mb fb r : Nat) (f : Fn) (L : FLay) (w0 : World) (hfb : FBox w0 fb f L) (hmb : w0.heap.size ≤ mb) (hreg : f.regs = (r : Int)) (hr : r ≤ 4096) (C0 : Cl) :
    Clo 30 ⟨mb + 3, 0, none⟩ r w0 (fun o => o.d < (r : Int)) (fun D X W => InvC mb fb r (D.foldl clEv C0) X W) := by
  have hfl := (Array.getElem?_eq_some_iff.1 hfb).1
  refine ⟨fun D X W o AA ac b m hI hok hW _ hs hm hx hT => ?_, fun D X W W' hI hk hsz => hI.frame hk hsz, fun D X W hI g hg => hI.xlt g hg⟩
  have hal : Below W.heap.size W (W.alloc (.cells #[.int .i64 o.k, .int .i64 o.d, .int .i64 o.a, .int .i64 o.b, .int .i64 o.imm, .string o.text, .slice AA o.args.length ac] 72)) := (Below.refl _ _).alloc (Nat.le_refl _) _
  have hI1 := hI.frame (fun g hg => hal.block g (hI.xlt g hg)) hal.size
  have HAL := Lib.hid hal
  have HI1 := Lib.hid hI1
  have hfold : (D ++ [(o, m)]).foldl clEv C0 = clEv (D.foldl clEv C0) (o, m) := by rw [List.foldl_append]; rfl
  have HF := Lib.hid hfold
  by_cases h0 : o.d < 0
  · have he : clEv (D.foldl clEv C0) (o, m) = D.foldl clEv C0 := by unfold clEv; rw [if_pos h0]
    have HE := Lib.hid (hfold.trans he)
    clear hI hok hW hs hm hx hT hal hI1 hfold he
    unfold opV
    go_enter Tryz.func30, Tryz.ntmps30
    go_wp2_with fail
    (try simp only [Exit.inBlock, Exit.then])
    refine bodyPost_ret (results_none rfl _ _ _) rfl ?_
    exact ⟨rfl, X, by rw [HE.out]; exact HI1.out, Bes.of_below HAL.out, fun g hg => .inl hg⟩
  · obtain ⟨d, hd⟩ := Int.eq_ofNat_of_zero_le (show 0 ≤ o.d by omega)
    have hdr : d < r := by omega
    have he : clEv (D.foldl clEv C0) (o, m) = wr d (if o.k = 2 then o.a else -1) m (D.foldl clEv C0) := by
      unfold clEv
      rw [if_neg h0]
      simp only [hd, Int.toNat_natCast]
    have HE := Lib.hid (hfold.trans he)
    have hbl := (Array.getElem?_eq_some_iff.1 hs).1
    have hwfb : FBox (W.alloc (.cells #[.int .i64 o.k, .int .i64 o.d, .int .i64 o.a, .int .i64 o.b, .int .i64 o.imm, .string o.text, .slice AA o.args.length ac] 72)) fb f L := (hal.block fb (Nat.lt_of_lt_of_le hfl hW.size)).trans ((hW.block fb hfl).trans hfb)
    have HWR := Lib.hid (fun but => wr_28 mb fb r f L (D.foldl clEv C0) X _ hI1 hwfb (by omega) hreg hr (hT.after hal) d hdr but b m ((hal.block _ hbl).trans hs) hm)
    obtain ⟨-, -, v3⟩ := hI1.vars
    have hn0 : ¬ o.d < 0 := h0
    have HD := Lib.hid hd
    clear hI hok hW hs hm hx hT hal hI1 hfold he h0 hwfb hfb hreg
    unfold opV
    obtain ⟨ok, od, oa, ob, oi, ot, oar⟩ := o
    simp only at hd hn0 HWR v3 HAL HE HF
    subst hd
    by_cases hk2 : ok = 2
    · rw [if_pos hk2] at HE
      have qk : (ok == 2) = true := by simpa using hk2
      clear hk2
      go_enter Tryz.func30, Tryz.ntmps30
      go_wp2_with (go_at_call 28; refine (HWR.out _).mono ?_; rintro e w5 ⟨rfl, X5, h5, hb5, hs5⟩; have H5 := Lib.hid h5; have HB5 := Lib.hid hb5; have HS5 := Lib.hid hs5; clear h5 hb5 hs5)
      go_end0
      exact ⟨rfl, X5, by rw [HE.out]; exact H5.out, (Bes.of_below (X := X) HAL.out).trans HB5.out (fun g hg => .inl hg), fun g hg => (HS5.out g hg).elim .inl (fun h => .inr (by rw [World.size_alloc] at h; omega))⟩
    · rw [if_neg hk2] at HE
      have qk : (ok == 2) = false := by simpa using hk2
      clear hk2
      go_enter Tryz.func30, Tryz.ntmps30
      go_wp2_with (go_at_call 28; refine (HWR.out _).mono ?_; rintro e w5 ⟨rfl, X5, h5, hb5, hs5⟩; have H5 := Lib.hid h5; have HB5 := Lib.hid hb5; have HS5 := Lib.hid hs5; clear h5 hb5 hs5)
      go_end0
      exact ⟨rfl, X5, by rw [HE.out]; exact H5.out, (Bes.of_below (X := X) HAL.out).trans HB5.out (fun g hg => .inl hg), fun g hg => (HS5.out g hg).elim .inl (fun h => .inr (by rw [World.size_alloc] at h; omega))⟩
end Go.Proofs.YthgbmhpfblgjcaaGreatDoor.fl
