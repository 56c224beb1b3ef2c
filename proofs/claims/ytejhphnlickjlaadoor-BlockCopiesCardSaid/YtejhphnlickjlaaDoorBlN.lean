/-
  The contract of Unset of package block. Condition: a store stands in memory.
-/
import Derived.Test.YtejhphnlickjlaaDoorBlL
import Derived.Test.YtejhphnlickjlaaDoorBlF
import Derived.StillTailTactics
import Derived.Maps.Keyed
import Derived.Laws.CopyOwn
set_option linter.unusedVariables false
set_option linter.unusedSimpArgs false
namespace Go.Proofs.YtejhphnlickjlaaDoor.bl
open Go.RowKit Go.Maps
open M ty
set_option linter.unusedVariables false
theorem key_law : Keyed Tryd.prog 3 := int_keyed Tryd.underlying3
theorem zero_int (w : World) : (zeroValue 3).run Tryd.prog w = .ok (.int .i64 0) w := by kernel_rfl
theorem wrap_i64_wf (x : Int) : (Lit.int .i64 (IntKind.i64.wrap x)).wf = true := by
  simp only [Lit.wf, IntKind.min, IntKind.max, IntKind.signed, IntKind.bits, IntKind.wrap_i64, Bool.and_eq_true, decide_eq_true_eq, if_true]
  omega
/-- a store, and a pointer's variable at the place where w ends -/
structure Wk (w W : World) (B g N : Nat) (st : St) (L : Lay) (k i o : Int) : Prop where
  sto : Sto W B g N st L
  fr : Fr w W g L st.bl.length
  Bw : B ≤ w.heap.size
  v : W.heap[w.heap.size]? = some (.cells #[.int .i64 k, .int .i64 i, .int .i64 o] 24 (0, 0))
  py : ∀ j b, st.bl[j]? = some b → L.py j < w.heap.size
  lm : L.gm < w.heap.size
section
variable {w W W' : World} {B g N : Nat} {st : St} {L : Lay} {k i o : Int}
theorem Sto.mlt (h : Sto w B g N st L) : L.gm < w.heap.size := by
  obtain ⟨D, es, clock, hb, r⟩ := h.map
  exact (Array.getElem?_eq_some_iff.1 hb).1
theorem Wk.new (h : Sto w B g N st L) (k i o : Int) : Wk w (w.alloc (.cells #[.int .i64 k, .int .i64 i, .int .i64 o] 24)) B g N st L k i o := by
  have hB : B ≤ w.heap.size := Nat.le_of_lt (Nat.lt_of_le_of_lt h.Bg h.lt)
  exact ⟨h.alloc _, (Fr.refl _ _ _ _).alloc _, hB, heap_alloc_new w _, fun j b hb => (Array.getElem?_eq_some_iff.1 (h.body j b hb).2.2.2.1).1, h.mlt⟩
theorem Wk.vlt (h : Wk w W B g N st L k i o) : w.heap.size < W.heap.size := (Array.getElem?_eq_some_iff.1 h.v).1
theorem Wk.after (h : Wk w W B g N st L k i o) (hb : Below W.heap.size W W') : Wk w W' B g N st L k i o :=
  ⟨h.sto.below hb, h.fr.after hb, h.Bw, (hb.block _ h.vlt).trans h.v, h.py, h.lm⟩
theorem Wk.alloc (h : Wk w W B g N st L k i o) (x : Obj) : Wk w (W.alloc x) B g N st L k i o := h.after ((Below.refl _ _).alloc (Nat.le_refl _) _)
theorem Wk.drew (h : Wk w W B g N st L k i o) : Wk w W.drew B g N st L k i o := ⟨h.sto.drew, h.fr.drew, h.Bw, h.v, h.py, h.lm⟩
theorem Wk.vv (h : Wk w W B g N st L k i o) : W.cell? ⟨w.heap.size, 0, none⟩ = some (.int .i64 k) ∧ W.cell? ⟨w.heap.size, 1, none⟩ = some (.int .i64 i) ∧ W.cell? ⟨w.heap.size, 2, none⟩ = some (.int .i64 o) :=
  ⟨Go.Joins.cell_of_block h.v 0, Go.Joins.cell_of_block h.v 1, Go.Joins.cell_of_block h.v 2⟩
theorem Wk.put (h : Wk w W B g N st L k i o) {j : Nat} {b : Bk} (hj : st.bl[j]? = some b) (q : Nat) (z : List By) (hq : q + z.length ≤ b.bs.length) :
    Wk w (W.setRow (L.py j) ((bys b.bs).take (6 * q) ++ bys z ++ (bys b.bs).drop (6 * (q + z.length))).toArray) B g N (st.put j q z) L k i o := by
  refine ⟨h.sto.put hj q z hq, by rw [put_length]; exact h.fr.setRow (h.sto.mine_py hj) _, h.Bw, (setRow_other _ _ _ _ (by have := h.py j b hj; omega)).trans h.v, fun j' b' hb' => ?_, h.lm⟩
  by_cases hjj : j' = j
  · rw [hjj]; exact h.py j b hj
  · rw [put_other q z hjj] at hb'; exact h.py j' b' hb'
theorem Wk.setMap (h : Wk w W B g N st L k i o) {D : DataW Unit} (hm : W'.ownsMap Tryd.prog 3 (plainElem Tryd.prog 3) L.gm (N + 1) D) (hg : W.grownBy W' (some L.gm)) : Wk w W' B g (N + 1) st L k i o :=
  ⟨h.sto.setMap hm hg, h.fr.grown hg (fun r e => by have := Option.some.inj e; subst this; exact h.sto.mine_map), h.Bw,
    (hg.block _ h.vlt (fun e => by have := Option.some.inj e; have := h.lm; omega)).trans h.v, h.py, h.lm⟩
/-- clear of a part of a block's bytes -/
theorem wpList_clear {ops : Array Oper} {rest : List Oper} {od : Oper} {a : Act} {Q : Exit → Act → World → Prop} (hgd : od.guard = none) (d : Operand) (hop : od.op = .call { callee := .builtin .clear, args := #[d], argTypes := #[52] })
    (h : Wk w W B g N st L k i o) {j : Nat} {b : Bk} (hj : st.bl[j]? = some b) {p n : Int} (h0 : 0 ≤ p) (h1 : 0 ≤ n) (h2 : p + n ≤ b.bs.length) (hd : a.eval d = sliceAt (L.py j) b.bs.length p n)
    (hK : ∀ W', Wk w W' B g N (st.put j p.toNat (List.replicate n.toNat By.zero)) L k i o → wpList Tryd.prog ops Q rest (a.put od.dst (.tuple #[])) W') : wpList Tryd.prog ops Q (od :: rest) a W := by
  refine wpList_plain hgd fun K' hK' => ?_
  by_cases hn : n = 0
  · subst hn
    have hrun : (Builtin.clear_ #[52] od.type #[sliceAt (L.py j) b.bs.length p 0]).run Tryd.prog W = .ok (.tuple #[]) W := by
      unfold sliceAt
      generalize (if b.bs.length = p.toNat then some (⟨L.py j, 0, none⟩ : Addr) else some ⟨L.py j, p.toNat * 6, none⟩) = A
      unfold Builtin.clear_
      cases A
      all_goals simp [run_underlying Tryd.underlying52]
    unfold Oper.wp
    simp [execOp, hop, resolve, invoke, builtin, hd, hrun, Result.andThen]
    refine hK' _ _ (hK _ ?_)
    simpa [put_nil] using h
  · have hlen : b.bs.length ≠ p.toNat := by omega
    have hs : sliceAt (L.py j) b.bs.length p n = .slice (some ⟨L.py j, p.toNat * 6, none⟩) n.toNat (b.bs.length - p.toNat) := by unfold sliceAt; rw [if_neg hlen]
    have hrun := run_clear W (L.py j) (p.toNat * 6) n.toNat (b.bs.length - p.toNat) (bys b.bs).toArray od.type (h.sto.body j b hj).2.2.2.1 (by simp [bys_length]; omega) (by omega)
    have hp := h.put hj p.toNat (List.replicate n.toNat By.zero) (by simp; omega)
    unfold Oper.wp
    rw [hs] at hd
    simp [execOp, hop, resolve, invoke, builtin, hd, hrun, Result.andThen]
    refine hK' _ _ (hK _ ?_)
    simpa [Nat.mul_comm, Nat.add_mul] using hp
end
end Go.Proofs.YtejhphnlickjlaaDoor.bl
namespace Go.Proofs.YtejhphnlickjlaaDoor.bl
open Go.RowKit Go.Maps
open M ty
set_option linter.unusedVariables false
/-- a block's kind -/
def kindOf (st : St) (i : Int) : Int := (st.bl[(i - 1).toNat]?.map Bk.kind).getD 0
/-- the error of Unset -/
def unsetE (st : St) (k i o n : Int) : Int := if n < 0 then 1 else if reachE st k i o n ≠ 0 then reachE st k i o n else if kindOf st i = 1 then 145 else 0
/-- reach, called while the pointer's variable stands -/
def ReachW (w : World) (B g N : Nat) (st : St) (L : Lay) (k i o a b c n : Int) (R : Value) : Prop :=
  ∀ W, Wk w W B g N st L k i o → Calls Tryd.prog 59 #[.pointer (some ⟨g, 0, none⟩), .agg #[.int .i64 a, .int .i64 b, .int .i64 c], .int .i64 n] W fun e w' => e = .returned R ∧ Wk w w' B g N st L k i o
def AnyW (w : World) (B g N : Nat) (st : St) (L : Lay) (k i o a b c n E : Int) : Prop :=
  ∀ W, Wk w W B g N st L k i o → Calls Tryd.prog 59 #[.pointer (some ⟨g, 0, none⟩), .agg #[.int .i64 a, .int .i64 b, .int .i64 c], .int .i64 n] W fun e w' => (∃ P S, e = .returned (.tuple #[P, S, .int .i64 E])) ∧ Wk w w' B g N st L k i o
section
variable {w W : World} {B g N : Nat} {st : St} {L : Lay} {k i o a b c n : Int}
theorem reachW (b0 : -9223372036854775808 ≤ b) (b1 : b ≤ 9223372036854775807) (n0 : 0 ≤ n) : ReachW w B g N st L k i o a b c n (reachR st L a b c n) :=
  fun W hW => (reach_any hW.sto a b c n b0 b1 n0).mono fun e w' ⟨x, y⟩ => ⟨x, hW.after y⟩
theorem anyW (b0 : -9223372036854775808 ≤ b) (b1 : b ≤ 9223372036854775807) (n0 : 0 ≤ n) : AnyW w B g N st L k i o a b c n (reachE st a b c n) := fun W hW => by
  obtain ⟨P, S, hf⟩ := reachR_form st L a b c n
  have := reach_any hW.sto a b c n b0 b1 n0
  rw [hf] at this
  exact this.mono fun e w' ⟨x, y⟩ => ⟨⟨P, S, x⟩, hW.after y⟩
/-- reach's answer where it has no error -/
theorem reachR_ok {j : Nat} {x : Bk} (hj : st.bl[j]? = some x) (hd : x.dead = false) (o0 : 0 ≤ o) (hl : o + n ≤ x.bs.length) (n0 : 0 ≤ n) :
    reachR st L 2 ((j : Int) + 1) o n = .tuple #[.pointer (some ⟨L.pb j, 0, none⟩), sliceAt (L.py j) x.bs.length o n, .int .i64 0] := by
  have hjl := (List.getElem?_eq_some_iff.1 hj).1
  have e1 : ((j : Int) + 1 - 1).toNat = j := by omega
  have h0 : reachE st 2 ((j : Int) + 1) o n = 0 := by
    unfold reachE
    rw [if_neg (by omega), e1, hj]
    simp [hd]
    omega
  unfold reachR
  rw [if_pos h0, e1, hj]
  rfl
/-- where the walk of a method stands behind its calls of reach -/
theorem Wk.kind (h : Wk w W B g N st L k i o) {j : Nat} {x : Bk} (hj : st.bl[j]? = some x) : W.cell? ⟨L.pb j, 0, none⟩ = some (.int .i64 x.kind) := Go.Joins.cell_of_block (h.sto.body j x hj).2.2.1 0
set_option maxRecDepth 20000 in
set_option maxHeartbeats 1600000 in
theorem unset_ok (h : Hid (Sto w B g N st L)) (hN : N < 1099511627776) {j : Nat} {x : Bk} (hj : st.bl[j]? = some x) (hd : x.dead = false) (hk : (x.kind == 1) = false) (n0 : ¬ n < 0) (o0 : 0 ≤ o) (hl : o + n ≤ x.bs.length) (hwf : (Lit.int .i64 ((j : Int) + 1)).wf = true)
    (HR : Hid (ReachW w B g N st L 2 ((j : Int) + 1) o 2 ((j : Int) + 1) o n (.tuple #[.pointer (some ⟨L.pb j, 0, none⟩), sliceAt (L.py j) x.bs.length o n, .int .i64 0]))) :
    Calls Tryd.prog 35 #[.pointer (some ⟨g, 0, none⟩), .agg #[.int .i64 2, .int .i64 ((j : Int) + 1), .int .i64 o], .int .i64 n] w fun e w' => e = .returned (.int .i64 0) ∧ Sto w' B g (N + 1) (st.put j o.toNat (List.replicate n.toNat By.zero)) L ∧ Fr w w' g L (st.put j o.toNat (List.replicate n.toNat By.zero)).bl.length := by
  have hkey : keyOf Tryd.prog 3 (.int .i64 ((j : Int) + 1)) = some (.int .i64 ((j : Int) + 1)) := keyOf_int_mk Tryd.underlying3 hwf
  have HJ := Lib.hid hj
  have HL := Lib.hid (show 0 ≤ o ∧ 0 ≤ n ∧ o + n ≤ x.bs.length from ⟨o0, by omega, hl⟩)
  clear hj hl o0 hd
  go_enter Tryd.func35, Tryd.ntmps35
  go_wp2_with (first
    | (go_at_call 59; refine (HR.out _ (Wk.new h.out _ _ _)).mono ?_; rintro e w1 ⟨rfl, h1⟩; have c0 := h1.kind HJ.out; have H1 := Lib.hid h1; clear h1)
    | ((with_reducible change wpList _ _ _ ({ dst := _, op := .call { callee := .builtin .clear, args := _, argTypes := _ }, type := _, pos := _, after := _, guard := _ } :: _) _ _); refine wpList_clear rfl (.tmp 31) rfl H1.out HJ.out HL.out.1 HL.out.2.1 HL.out.2.2 rfl ?_; intro w2 h2; have H2 := Lib.hid h2; clear h2 c0))
  have H3 := Lib.hid H2.out.drew
  obtain ⟨c0, c1, c2, c3⟩ := H3.out.sto.topc
  obtain ⟨v0, v1, v2⟩ := H3.out.vv
  obtain ⟨D, hD⟩ := H3.out.sto.map
  obtain ⟨c, hrun, hat, hwc⟩ := hD.lookup_int key_law Tryd.underlying104 Tryd.underlying3 (zero_int _) hkey
  have HD := Lib.hid hD
  clear hD hat hwc
  go_still_tail 8, (by kernel_rfl)
  change wpList _ _ _ _ _ w2.drew
  go_wp2_with (first
    | (at_mapUpdate; refine wpList_mapUpdate_own _ rfl _ _ _ 104 rfl 3 3 key_law Tryd.underlying104 _ L.gm N D rfl HD.out (by simp only [maxLen]; omega) _ _ _ rfl rfl hkey _ [] (plainElem_int Tryd.underlying3 (wrap_i64_wf _)) ?_; intro w4 hown4 hgrow4; have H4 := Lib.hid (H3.out.setMap hown4 hgrow4); clear hown4 hgrow4))
  go_ret
  exact ⟨rfl, H4.out.sto, H4.out.fr⟩
theorem unset_neg (hn : n < 0) : Calls Tryd.prog 35 #[.pointer (some ⟨g, 0, none⟩), .agg #[.int .i64 k, .int .i64 i, .int .i64 o], .int .i64 n] w fun e w' => e = .returned (.int .i64 1) ∧ Below w.heap.size w w' := by
  go_enter Tryd.func35, Tryd.ntmps35
  go_wp2_with fail
  go_ret
  exact ⟨rfl, (Below.refl _ _).alloc (Nat.le_refl _) _⟩
/-- reach, called where all below the method's start stands -/
def AnyB (w : World) (g : Nat) (k i o n E : Int) : Prop :=
  ∀ W, Below w.heap.size w W → Calls Tryd.prog 59 #[.pointer (some ⟨g, 0, none⟩), .agg #[.int .i64 k, .int .i64 i, .int .i64 o], .int .i64 n] W fun e w' => (∃ P S, e = .returned (.tuple #[P, S, .int .i64 E])) ∧ Below w.heap.size w w'
theorem anyB (h : Sto w B g N st L) (i0 : -9223372036854775808 ≤ i) (i1 : i ≤ 9223372036854775807) (n0 : 0 ≤ n) : AnyB w g k i o n (reachE st k i o n) := fun W hW => by
  obtain ⟨P, S, hf⟩ := reachR_form st L k i o n
  have := reach_any (h.below hW) k i o n i0 i1 n0
  rw [hf] at this
  exact this.mono fun e w' ⟨x, y⟩ => ⟨⟨P, S, x⟩, hW.trans (y.mono hW.size)⟩
/-- reach, called where all below stands, and the block that it finds -/
def FindB (w : World) (g : Nat) (k i o n : Int) (p : Nat) (S : Value) (kd : Int) : Prop :=
  ∀ W, Below w.heap.size w W → Calls Tryd.prog 59 #[.pointer (some ⟨g, 0, none⟩), .agg #[.int .i64 k, .int .i64 i, .int .i64 o], .int .i64 n] W fun e w' => e = .returned (.tuple #[.pointer (some ⟨p, 0, none⟩), S, .int .i64 0]) ∧ Below w.heap.size w w' ∧ w'.cell? ⟨p, 0, none⟩ = some (.int .i64 kd)
theorem findB (h : Sto w B g N st L) {j : Nat} {x : Bk} (hj : st.bl[j]? = some x) (hd : x.dead = false) (o0 : 0 ≤ o) (hl : o + n ≤ x.bs.length) (n0 : 0 ≤ n) (i1 : (j : Int) + 1 ≤ 9223372036854775807) :
    FindB w g 2 ((j : Int) + 1) o n (L.pb j) (sliceAt (L.py j) x.bs.length o n) x.kind := fun W hW => by
  have := reach_any (h.below hW) 2 ((j : Int) + 1) o n (by omega) i1 n0
  rw [reachR_ok hj hd o0 hl n0] at this
  exact this.mono fun e w' ⟨a, b⟩ => ⟨a, hW.trans (b.mono hW.size), Go.Joins.cell_of_block (((h.below hW).below b).body j x hj).2.2.1 0⟩
set_option maxRecDepth 20000 in
theorem unset_err (hn : ¬ n < 0) {E : Int} (hE : (E != 0) = true) (HR : Hid (AnyB w g k i o n E)) : Calls Tryd.prog 35 #[.pointer (some ⟨g, 0, none⟩), .agg #[.int .i64 k, .int .i64 i, .int .i64 o], .int .i64 n] w fun e w' => e = .returned (.int .i64 E) ∧ Below w.heap.size w w' := by
  go_enter Tryd.func35, Tryd.ntmps35
  go_wp2_with (go_at_call 59; refine (HR.out _ ((Below.refl _ _).alloc (Nat.le_refl _) _)).mono ?_; rintro e w1 ⟨⟨P1, S1, rfl⟩, h1⟩; have H1 := Lib.hid h1; clear h1)
  go_ret
  exact ⟨rfl, H1.out⟩
set_option maxRecDepth 20000 in
theorem unset_text (hn : ¬ n < 0) {p : Nat} {S : Value} (HR : Hid (FindB w g k i o n p S 1)) : Calls Tryd.prog 35 #[.pointer (some ⟨g, 0, none⟩), .agg #[.int .i64 k, .int .i64 i, .int .i64 o], .int .i64 n] w fun e w' => e = .returned (.int .i64 145) ∧ Below w.heap.size w w' := by
  go_enter Tryd.func35, Tryd.ntmps35
  go_wp2_with (go_at_call 59; refine (HR.out _ ((Below.refl _ _).alloc (Nat.le_refl _) _)).mono ?_; rintro e w1 ⟨rfl, h1, c0⟩; have H1 := Lib.hid h1; clear h1)
  go_ret
  exact ⟨rfl, H1.out⟩
theorem wf_in {x : Int} (i0 : -9223372036854775808 ≤ x) (i1 : x ≤ 9223372036854775807) : (Lit.int .i64 x).wf = true := by
  simp only [Lit.wf, IntKind.min, IntKind.max, IntKind.signed, IntKind.bits, Bool.and_eq_true, decide_eq_true_eq, if_true]
  omega
/-- what a method that writes hands back: the error E; where there is none the store st' stands, else all is as it was -/
def Wrote (w : World) (B g N : Nat) (st' : St) (L : Lay) (E : Int) (e : Ending) (w' : World) : Prop :=
  e = .returned (.int .i64 E) ∧ (E = 0 → Sto w' B g (N + 1) st' L ∧ Fr w w' g L st'.bl.length) ∧ (E ≠ 0 → Below w.heap.size w w')
theorem Wrote.no {st' : St} {E : Int} {e : Ending} {w' : World} (hE : E ≠ 0) (h : e = .returned (.int .i64 E) ∧ Below w.heap.size w w') : Wrote w B g N st' L E e w' := ⟨h.1, fun h0 => absurd h0 hE, fun _ => h.2⟩
theorem unset_any (h : Sto w B g N st L) (hN : N < 1099511627776) (k i o n : Int) (i0 : -9223372036854775808 ≤ i) (i1 : i ≤ 9223372036854775807) :
    Calls Tryd.prog 35 #[.pointer (some ⟨g, 0, none⟩), vT k i o, .int .i64 n] w fun e w' => Wrote w B g N (st.put (i - 1).toNat o.toNat (List.replicate n.toNat By.zero)) L (unsetE st k i o n) e w' := by
  unfold vT
  by_cases hn : n < 0
  · rw [show unsetE st k i o n = 1 by unfold unsetE; rw [if_pos hn]]
    exact (unset_neg hn).mono fun e w' x => Wrote.no (by decide) x
  · by_cases hE : reachE st k i o n = 0
    · obtain ⟨rfl, h1, h2, o0, x, hx, hd, h3, h4⟩ := reach_zero hE
      obtain ⟨j, rfl⟩ : ∃ j : Nat, i = (j : Int) + 1 := ⟨(i - 1).toNat, by omega⟩
      have e1 : ((j : Int) + 1 - 1).toNat = j := by omega
      rw [e1] at hx ⊢
      by_cases hk : x.kind = 1
      · rw [show unsetE st 2 ((j : Int) + 1) o n = 145 by unfold unsetE kindOf; rw [if_neg hn, if_neg (fun h => h hE), e1, hx]; simp [hk]]
        have HF := findB (n := n) h hx hd o0 (by omega) (by omega) i1
        rw [hk] at HF
        exact (unset_text hn (Lib.hid HF)).mono fun e w' x => Wrote.no (by decide) x
      · rw [show unsetE st 2 ((j : Int) + 1) o n = 0 by unfold unsetE kindOf; rw [if_neg hn, if_neg (fun h => h hE), e1, hx]; simp [hk]]
        have HR : ReachW w B g N st L 2 ((j : Int) + 1) o 2 ((j : Int) + 1) o n _ := reachW i0 i1 (by omega)
        rw [reachR_ok hx hd o0 (by omega) (by omega)] at HR
        exact (unset_ok (Lib.hid h) hN hx hd (by simpa using hk) hn o0 (by omega) (wf_in i0 i1) (Lib.hid HR)).mono fun e w' ⟨a, b, c⟩ => ⟨a, fun _ => ⟨b, c⟩, fun h0 => absurd rfl h0⟩
    · rw [show unsetE st k i o n = reachE st k i o n by unfold unsetE; rw [if_neg hn, if_pos hE]]
      exact (unset_err hn (by simpa using hE) (Lib.hid (anyB h i0 i1 (by omega)))).mono fun e w' x => Wrote.no hE x
end
end Go.Proofs.YtejhphnlickjlaaDoor.bl
