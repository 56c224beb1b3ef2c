/-
  The contract of Copy of package block. Condition: a store stands in memory.
-/
import Derived.Test.YtejhphnlickjlaaDoorBlN
set_option linter.unusedVariables false
set_option linter.unusedSimpArgs false
namespace Go.Proofs.YtejhphnlickjlaaDoor.bl
open Go.RowKit Go.Maps
open M ty
set_option linter.unusedVariables false
/-- the error of Copy -/
def copyE (st : St) (k i o k2 i2 o2 n : Int) : Int :=
  if n < 0 then 1 else if reachE st k i o n ≠ 0 then reachE st k i o n else if reachE st k2 i2 o2 n ≠ 0 then reachE st k2 i2 o2 n else
    if kindOf st i = 1 then 145 else if i = i2 ∧ o ≠ o2 ∧ o < o2 + n ∧ o2 < o + n then 146 else 0
/-- the bytes of block i from o on, n of them -/
def bytesAt (st : St) (i o n : Int) : List By := (((st.bl[(i - 1).toNat]?.map Bk.bs).getD []).drop o.toNat).take n.toNat
section
variable {w W W' : World} {B g N : Nat} {st : St} {L : Lay} {k i o k2 i2 o2 n : Int}
theorem Wk.of (h : Sto w B g N st L) (hb : Below w.heap.size w W) (hv : W.heap[w.heap.size]? = some (.cells #[.int .i64 k, .int .i64 i, .int .i64 o] 24 (0, 0))) : Wk w W B g N st L k i o := by
  have hB : B ≤ w.heap.size := Nat.le_of_lt (Nat.lt_of_le_of_lt h.Bg h.lt)
  exact ⟨h.below hb, .of_below hb, hB, hv, fun j b hb => (Array.getElem?_eq_some_iff.1 (h.body j b hb).2.2.2.1).1, h.mlt⟩
/-- copy from one part of a block's bytes to another -/
theorem wpList_copy {ops : Array Oper} {rest : List Oper} {od : Oper} {a : Act} {Q : Exit → Act → World → Prop} (hgd : od.guard = none) (d s : Operand) (hop : od.op = .call { callee := .builtin .copy, args := #[d, s], argTypes := #[52, 52] })
    (h : Wk w W B g N st L k i o) {j j2 : Nat} {b b2 : Bk} (hj : st.bl[j]? = some b) (hj2 : st.bl[j2]? = some b2) {p p2 n : Int} (hh : 0 ≤ p ∧ 0 ≤ n ∧ p + n ≤ b.bs.length ∧ 0 ≤ p2 ∧ p2 + n ≤ b2.bs.length)
    (hd : a.eval d = sliceAt (L.py j) b.bs.length p n) (hs : a.eval s = sliceAt (L.py j2) b2.bs.length p2 n)
    (hK : ∀ W', Wk w W' B g N (st.put j p.toNat ((b2.bs.drop p2.toNat).take n.toNat)) L k i o → wpList Tryd.prog ops Q rest (a.put od.dst (goInt n)) W') : wpList Tryd.prog ops Q (od :: rest) a W := by
  obtain ⟨h0, h1, h2, h3, h4⟩ := hh
  obtain ⟨m, rfl⟩ : ∃ m : Nat, n = m := ⟨n.toNat, by omega⟩
  refine wpList_plain hgd fun K' hK' => ?_
  by_cases hn : m = 0
  · subst hn
    rw [show (((0 : Nat) : Int)) = 0 from rfl] at *
    have hrun : (Builtin.copy_ #[52, 52] od.type #[sliceAt (L.py j) b.bs.length p 0, sliceAt (L.py j2) b2.bs.length p2 0]).run Tryd.prog W = .ok (goInt 0) W := by
      unfold sliceAt
      generalize (if b.bs.length = p.toNat then some (⟨L.py j, 0, none⟩ : Addr) else some ⟨L.py j, p.toNat * 6, none⟩) = A
      generalize (if b2.bs.length = p2.toNat then some (⟨L.py j2, 0, none⟩ : Addr) else some ⟨L.py j2, p2.toNat * 6, none⟩) = A2
      unfold Builtin.copy_
      have hl : ∀ a2 : Addr, (loadCells a2 0).run Tryd.prog W = .ok #[] W := fun a2 => by
        have := run_loadCells_list (P := Tryd.prog) W a2 [] (by intro j v h; simp at h)
        simpa using this
      have hst : ∀ a2 : Addr, (storeCells a2 []).run Tryd.prog W = .ok () W := fun a2 => by simp [storeCells]
      cases A <;> cases A2
      all_goals simp [run_underlying Tryd.underlying52, Builtin.lenOf, Builtin.firstCells, hl, hst]
    unfold Oper.wp
    simp [execOp, hop, resolve, invoke, builtin, hd, hs, hrun, Result.andThen]
    refine hK' _ _ (hK _ ?_)
    simpa [put_nil] using h
  · have hlen : b.bs.length ≠ p.toNat := by omega
    have hlen2 : b2.bs.length ≠ p2.toNat := by omega
    have e1 : sliceAt (L.py j) b.bs.length p m = .slice (some ⟨L.py j, p.toNat * 6, none⟩) m (b.bs.length - p.toNat) := by unfold sliceAt; rw [if_neg hlen, Int.toNat_natCast]
    have e2 : sliceAt (L.py j2) b2.bs.length p2 m = .slice (some ⟨L.py j2, p2.toNat * 6, none⟩) m (b2.bs.length - p2.toNat) := by unfold sliceAt; rw [if_neg hlen2, Int.toNat_natCast]
    have hc : ((b2.bs.drop p2.toNat).take m).length = m := by simp; omega
    have hrun := run_copy6 W od.type (L.py j) (p.toNat * 6) (b.bs.length - p.toNat) ⟨L.py j2, p2.toNat * 6, none⟩ (b2.bs.length - p2.toNat) (bys b.bs).toArray ((b2.bs.drop p2.toNat).take m) (h.sto.body j b hj).2.2.2.1
      (fun q v hv => by
        have hq : q < 6 * m := by
          have := (List.getElem?_eq_some_iff.1 hv).1
          rwa [bys_length, hc] at this
        rw [← bys_take, ← bys_drop, List.getElem?_take_of_lt hq, List.getElem?_drop] at hv
        have hb4 := (h.sto.body j2 b2 hj2).2.2.2.1
        show W.cell? (Addr.add _ q) = some v
        have : (⟨L.py j2, p2.toNat * 6, none⟩ : Addr).add q = ⟨L.py j2, p2.toNat * 6 + q, none⟩ := by unfold Addr.add; split <;> simp_all
        rw [this]
        unfold World.cell?
        rw [hb4]
        simpa [Nat.mul_comm] using hv)
      (by simp [bys_length, hc]; omega)
    have hp := h.put hj p.toNat ((b2.bs.drop p2.toNat).take m) (by omega)
    unfold Oper.wp
    rw [e1] at hd
    rw [e2] at hs
    rw [hc] at hrun hp
    simp [execOp, hop, resolve, invoke, builtin, hd, hs, hrun, Result.andThen]
    refine hK' _ _ (hK _ ?_)
    simpa [Nat.mul_comm, Nat.add_mul] using hp
def FindQ (w : World) (g : Nat) (k i o k2 i2 o2 a b c n : Int) (p : Nat) (S : Value) (p0 : Nat) (kd : Int) : Prop :=
  ∀ W, EnvQ w W k i o k2 i2 o2 → Calls Tryd.prog 59 #[.pointer (some ⟨g, 0, none⟩), .agg #[.int .i64 a, .int .i64 b, .int .i64 c], .int .i64 n] W fun e w' => e = .returned (.tuple #[.pointer (some ⟨p, 0, none⟩), S, .int .i64 0]) ∧ EnvQ w w' k i o k2 i2 o2 ∧ w'.cell? ⟨p0, 0, none⟩ = some (.int .i64 kd)
def AnyQ (w : World) (g : Nat) (k i o k2 i2 o2 a b c n E : Int) : Prop :=
  ∀ W, EnvQ w W k i o k2 i2 o2 → Calls Tryd.prog 59 #[.pointer (some ⟨g, 0, none⟩), .agg #[.int .i64 a, .int .i64 b, .int .i64 c], .int .i64 n] W fun e w' => (∃ P S, e = .returned (.tuple #[P, S, .int .i64 E])) ∧ EnvQ w w' k i o k2 i2 o2
theorem findQ (h : Sto w B g N st L) {j j0 : Nat} {x x0 : Bk} (hj : st.bl[j]? = some x) (hj0 : st.bl[j0]? = some x0) (hd : x.dead = false) {c : Int} (o0 : 0 ≤ c) (hl : c + n ≤ x.bs.length) (n0 : 0 ≤ n) (i1 : (j : Int) + 1 ≤ 9223372036854775807) :
    FindQ w g k i o k2 i2 o2 2 ((j : Int) + 1) c n (L.pb j) (sliceAt (L.py j) x.bs.length c n) (L.pb j0) x0.kind := fun W hW => by
  have := reach_any (h.below hW.below) 2 ((j : Int) + 1) c n (by omega) i1 n0
  rw [reachR_ok hj hd o0 hl n0] at this
  exact this.mono fun e w' ⟨a, b⟩ => ⟨a, hW.after b, Go.Joins.cell_of_block (((h.below hW.below).below b).body j0 x0 hj0).2.2.1 0⟩
theorem anyQ (h : Sto w B g N st L) {a b c : Int} (i0 : -9223372036854775808 ≤ b) (i1 : b ≤ 9223372036854775807) (n0 : 0 ≤ n) : AnyQ w g k i o k2 i2 o2 a b c n (reachE st a b c n) := fun W hW => by
  obtain ⟨P, S, hf⟩ := reachR_form st L a b c n
  have := reach_any (h.below hW.below) a b c n i0 i1 n0
  rw [hf] at this
  exact this.mono fun e w' ⟨x, y⟩ => ⟨⟨P, S, x⟩, hW.after y⟩
theorem copy_neg (hn : n < 0) : Calls Tryd.prog 24 #[.pointer (some ⟨g, 0, none⟩), .agg #[.int .i64 k, .int .i64 i, .int .i64 o], .agg #[.int .i64 k2, .int .i64 i2, .int .i64 o2], .int .i64 n] w fun e w' => e = .returned (.int .i64 1) ∧ Below w.heap.size w w' := by
  go_enter Tryd.func24, Tryd.ntmps24
  go_wp2_with fail
  go_ret
  exact ⟨rfl, ((Below.refl _ _).alloc (Nat.le_refl _) _).alloc (by simp) _⟩
set_option maxRecDepth 20000 in
theorem copy_err1 (hn : ¬ n < 0) {E : Int} (hE : (E != 0) = true) (HR : Hid (AnyQ w g k i o k2 i2 o2 k i o n E)) : Calls Tryd.prog 24 #[.pointer (some ⟨g, 0, none⟩), .agg #[.int .i64 k, .int .i64 i, .int .i64 o], .agg #[.int .i64 k2, .int .i64 i2, .int .i64 o2], .int .i64 n] w fun e w' => e = .returned (.int .i64 E) ∧ Below w.heap.size w w' := by
  go_enter Tryd.func24, Tryd.ntmps24
  go_wp2_with (go_at_call 59; refine (HR.out _ (EnvQ.new w k i o k2 i2 o2)).mono ?_; rintro e w1 ⟨⟨P1, S1, rfl⟩, h1⟩; have H1 := Lib.hid h1; clear h1)
  go_ret
  exact ⟨rfl, H1.out.below⟩
set_option maxRecDepth 20000 in
theorem copy_err2 (hn : ¬ n < 0) {E : Int} (hE : (E != 0) = true) (HP : Hid (AnyQ w g k i o k2 i2 o2 k i o n 0)) (HR : Hid (AnyQ w g k i o k2 i2 o2 k2 i2 o2 n E)) : Calls Tryd.prog 24 #[.pointer (some ⟨g, 0, none⟩), .agg #[.int .i64 k, .int .i64 i, .int .i64 o], .agg #[.int .i64 k2, .int .i64 i2, .int .i64 o2], .int .i64 n] w fun e w' => e = .returned (.int .i64 E) ∧ Below w.heap.size w w' := by
  go_enter Tryd.func24, Tryd.ntmps24
  go_wp2_with (go_at_call 59; first
    | (refine (HP.out _ (EnvQ.new w k i o k2 i2 o2)).mono ?_; rintro e w1 ⟨⟨P1, S1, rfl⟩, h1⟩; obtain ⟨c0, c1, c2, c3, c4, c5⟩ := h1.cells; have H1 := Lib.hid h1; clear h1 HP)
    | (refine (HR.out _ H1.out).mono ?_; rintro e w2 ⟨⟨P2, S2, rfl⟩, h2⟩; have H2 := Lib.hid h2; clear h2))
  go_ret
  exact ⟨rfl, H2.out.below⟩
set_option maxRecDepth 20000 in
theorem copy_text (hn : ¬ n < 0) {p p2 : Nat} {S S2 : Value} (HP : Hid (FindQ w g k i o k2 i2 o2 k i o n p S p 1)) (HR : Hid (FindQ w g k i o k2 i2 o2 k2 i2 o2 n p2 S2 p 1)) : Calls Tryd.prog 24 #[.pointer (some ⟨g, 0, none⟩), .agg #[.int .i64 k, .int .i64 i, .int .i64 o], .agg #[.int .i64 k2, .int .i64 i2, .int .i64 o2], .int .i64 n] w fun e w' => e = .returned (.int .i64 145) ∧ Below w.heap.size w w' := by
  go_enter Tryd.func24, Tryd.ntmps24
  go_wp2_with (go_at_call 59; first
    | (refine (HP.out _ (EnvQ.new w k i o k2 i2 o2)).mono ?_; rintro e w1 ⟨rfl, h1, _⟩; obtain ⟨c0, c1, c2, c3, c4, c5⟩ := h1.cells; have H1 := Lib.hid h1; clear h1 HP)
    | (refine (HR.out _ H1.out).mono ?_; rintro e w2 ⟨rfl, h2, cc⟩; have H2 := Lib.hid h2; clear h2 c0 c1 c2 c3 c4 c5))
  go_ret
  exact ⟨rfl, H2.out.below⟩
set_option maxRecDepth 20000 in
set_option maxHeartbeats 800000 in
theorem copy_apart (hn : ¬ n < 0) {p p2 : Nat} {S S2 : Value} {kd : Int} (hk : (kd == 1) = false) (ho : (o != o2) = true) (h1 : o < o2 + n) (h2 : o2 < o + n) (w1 : wrap64 (o2 + n) = o2 + n) (w2 : wrap64 (o + n) = o + n)
    (HP : Hid (FindQ w g k i o k2 i o2 k i o n p S p kd)) (HR : Hid (FindQ w g k i o k2 i o2 k2 i o2 n p2 S2 p kd)) : Calls Tryd.prog 24 #[.pointer (some ⟨g, 0, none⟩), .agg #[.int .i64 k, .int .i64 i, .int .i64 o], .agg #[.int .i64 k2, .int .i64 i, .int .i64 o2], .int .i64 n] w fun e w' => e = .returned (.int .i64 146) ∧ Below w.heap.size w w' := by
  go_enter Tryd.func24, Tryd.ntmps24
  go_wp2_with (go_at_call 59; first
    | (refine (HP.out _ (EnvQ.new w k i o k2 i o2)).mono ?_; rintro e w1 ⟨rfl, h1, _⟩; obtain ⟨c0, c1, c2, c3, c4, c5⟩ := h1.cells; have H1 := Lib.hid h1; clear h1 HP)
    | (refine (HR.out _ H1.out).mono ?_; rintro e w2 ⟨rfl, h2, cc⟩; clear c0 c1 c2 c3 c4 c5; obtain ⟨c0, c1, c2, c3, c4, c5⟩ := h2.cells; have H2 := Lib.hid h2; clear h2))
  go_ret
  exact ⟨rfl, H2.out.below⟩
set_option maxRecDepth 20000 in
set_option maxHeartbeats 6400000 in
theorem copy_ok (h : Hid (Sto w B g N st L)) (hN : N < 1099511627776) (hn : ¬ n < 0) {j j2 : Nat} {x x2 : Bk} (HJ : Hid (st.bl[j]? = some x)) (HJ2 : Hid (st.bl[j2]? = some x2))
    (HL : Hid (0 ≤ o ∧ 0 ≤ n ∧ o + n ≤ x.bs.length ∧ 0 ≤ o2 ∧ o2 + n ≤ x2.bs.length)) (hk : (x.kind == 1) = false) (hwf : (Lit.int .i64 i).wf = true)
    (hap : (i == i2) = false ∨ (i == i2) = true ∧ (o != o2) = false ∨ (i == i2) = true ∧ (o != o2) = true ∧ ¬ o < o2 + n ∨ (i == i2) = true ∧ (o != o2) = true ∧ o < o2 + n ∧ ¬ o2 < o + n) (w1 : wrap64 (o2 + n) = o2 + n) (w2 : wrap64 (o + n) = o + n)
    (HP : Hid (FindQ w g k i o k2 i2 o2 k i o n (L.pb j) (sliceAt (L.py j) x.bs.length o n) (L.pb j) x.kind)) (HR : Hid (FindQ w g k i o k2 i2 o2 k2 i2 o2 n (L.pb j2) (sliceAt (L.py j2) x2.bs.length o2 n) (L.pb j) x.kind)) :
    Calls Tryd.prog 24 #[.pointer (some ⟨g, 0, none⟩), .agg #[.int .i64 k, .int .i64 i, .int .i64 o], .agg #[.int .i64 k2, .int .i64 i2, .int .i64 o2], .int .i64 n] w fun e w' => e = .returned (.int .i64 0) ∧ Sto w' B g (N + 1) (st.put j o.toNat ((x2.bs.drop o2.toNat).take n.toNat)) L ∧ Fr w w' g L (st.put j o.toNat ((x2.bs.drop o2.toNat).take n.toNat)).bl.length := by
  have hkey : keyOf Tryd.prog 3 (.int .i64 i) = some (.int .i64 i) := keyOf_int_mk Tryd.underlying3 hwf
  rcases hap with ha | ⟨ha, hb⟩ | ⟨ha, hb, hc⟩ | ⟨ha, hb, hc, hd⟩
  all_goals
    go_enter Tryd.func24, Tryd.ntmps24
    go_wp2_with (first
      | (go_at_call 59; first
        | (refine (HP.out _ (EnvQ.new w k i o k2 i2 o2)).mono ?_; rintro e w1 ⟨rfl, h1, _⟩; obtain ⟨c0, c1, c2, c3, c4, c5⟩ := h1.cells; have H1 := Lib.hid h1; clear h1 HP)
        | (refine (HR.out _ H1.out).mono ?_; rintro e w2 ⟨rfl, h2, cc⟩; clear c0 c1 c2 c3 c4 c5; obtain ⟨c0, c1, c2, c3, c4, c5⟩ := h2.cells; have H2 := Lib.hid (Wk.of h.out h2.below h2.p); clear h2))
      | ((with_reducible change wpList _ _ _ ({ dst := _, op := .call { callee := .builtin .copy, args := _, argTypes := _ }, type := _, pos := _, after := _, guard := _ } :: _) _ _); refine wpList_copy rfl (.tmp 77) (.tmp 78) rfl H2.out HJ.out HJ2.out HL.out rfl rfl ?_; intro w3 h3; have H3 := Lib.hid h3.drew; clear h3 c0 c1 c2 c3 c4 c5 cc))
    obtain ⟨c0, c1, c2, c3⟩ := H3.out.sto.topc
    obtain ⟨v0, v1, v2⟩ := H3.out.vv
    obtain ⟨D, hD⟩ := H3.out.sto.map
    obtain ⟨c, hrun, hat, hwc⟩ := hD.lookup_int key_law Tryd.underlying104 Tryd.underlying3 (zero_int _) hkey
    have HD := Lib.hid hD
    clear hD hat hwc
    go_still_tail 8, (by kernel_rfl)
    change wpList _ _ _ _ _ w3.drew
    go_wp2_with (first
      | (at_mapUpdate; refine wpList_mapUpdate_own _ rfl _ _ _ 104 rfl 3 3 key_law Tryd.underlying104 _ L.gm N D rfl HD.out (by simp only [maxLen]; omega) _ _ _ rfl rfl hkey _ [] (plainElem_int Tryd.underlying3 (wrap_i64_wf _)) ?_; intro w4 hown4 hgrow4; have H4 := Lib.hid (H3.out.setMap hown4 hgrow4); clear hown4 hgrow4))
    go_ret
    exact ⟨rfl, H4.out.sto, H4.out.fr⟩
theorem copy_any (h : Sto w B g N st L) (hN : N < 1099511627776) (k i o k2 i2 o2 n : Int) (i0 : -9223372036854775808 ≤ i) (i1 : i ≤ 9223372036854775807) (j0 : -9223372036854775808 ≤ i2) (j1 : i2 ≤ 9223372036854775807) :
    Calls Tryd.prog 24 #[.pointer (some ⟨g, 0, none⟩), vT k i o, vT k2 i2 o2, .int .i64 n] w fun e w' => Wrote w B g N (st.put (i - 1).toNat o.toNat (bytesAt st i2 o2 n)) L (copyE st k i o k2 i2 o2 n) e w' := by
  unfold vT
  by_cases hn : n < 0
  · rw [show copyE st k i o k2 i2 o2 n = 1 by unfold copyE; rw [if_pos hn]]
    exact (copy_neg hn).mono fun e w' x => Wrote.no (by decide) x
  · by_cases hE : reachE st k i o n = 0
    · by_cases hE2 : reachE st k2 i2 o2 n = 0
      · obtain ⟨rfl, h1, h2, o0, x, hx, hd, h3, h4⟩ := reach_zero hE
        obtain ⟨rfl, h5, h6, o20, x2, hx2, hd2, h7, h8⟩ := reach_zero hE2
        obtain ⟨j, rfl⟩ : ∃ j : Nat, i = (j : Int) + 1 := ⟨(i - 1).toNat, by omega⟩
        obtain ⟨j2, rfl⟩ : ∃ j : Nat, i2 = (j : Int) + 1 := ⟨(i2 - 1).toNat, by omega⟩
        have e1 : ((j : Int) + 1 - 1).toNat = j := by omega
        have e2 : ((j2 : Int) + 1 - 1).toNat = j2 := by omega
        rw [e1] at hx ⊢
        rw [e2] at hx2
        have hm := (h.body _ x hx).2.2.2.2
        have hm2 := (h.body _ x2 hx2).2.2.2.2
        have s1 : wrap64 (o2 + n) = o2 + n := IntWalk.wrap64_in _ (by omega)
        have s2 : wrap64 (o + n) = o + n := IntWalk.wrap64_in _ (by omega)
        have HP := fun n0 => findQ (k := 2) (i := (j : Int) + 1) (o := o) (k2 := 2) (i2 := (j2 : Int) + 1) (o2 := o2) (n := n) h hx hx hd o0 (by omega) n0 i1
        have HR := fun n0 => findQ (k := 2) (i := (j : Int) + 1) (o := o) (k2 := 2) (i2 := (j2 : Int) + 1) (o2 := o2) (n := n) h hx2 hx hd2 o20 (by omega) n0 j1
        have HP := HP (by omega)
        have HR := HR (by omega)
        have hC : copyE st 2 ((j : Int) + 1) o 2 ((j2 : Int) + 1) o2 n = if x.kind = 1 then 145 else if (j : Int) + 1 = (j2 : Int) + 1 ∧ o ≠ o2 ∧ o < o2 + n ∧ o2 < o + n then 146 else 0 := by
          unfold copyE kindOf
          rw [if_neg hn, if_neg (fun h => h hE), if_neg (fun h => h hE2), e1, hx]
          rfl
        rw [hC]
        by_cases hk : x.kind = 1
        · rw [if_pos hk]
          rw [hk] at HP HR
          exact (copy_text hn (Lib.hid HP) (Lib.hid HR)).mono fun e w' x => Wrote.no (by decide) x
        · rw [if_neg hk]
          have hk2 : (x.kind == 1) = false := by simpa using hk
          by_cases hap : (j : Int) + 1 = (j2 : Int) + 1 ∧ o ≠ o2 ∧ o < o2 + n ∧ o2 < o + n
          · rw [if_pos hap]
            obtain ⟨a1, a2, a3, a4⟩ := hap
            rw [← a1] at HP HR ⊢
            exact (copy_apart hn hk2 (by simpa using a2) a3 a4 s1 s2 (Lib.hid HP) (Lib.hid HR)).mono fun e w' x => Wrote.no (by decide) x
          · rw [if_neg hap]
            have hap' : ((j : Int) + 1 == (j2 : Int) + 1) = false ∨ ((j : Int) + 1 == (j2 : Int) + 1) = true ∧ (o != o2) = false ∨ ((j : Int) + 1 == (j2 : Int) + 1) = true ∧ (o != o2) = true ∧ ¬ o < o2 + n ∨ ((j : Int) + 1 == (j2 : Int) + 1) = true ∧ (o != o2) = true ∧ o < o2 + n ∧ ¬ o2 < o + n := by
              simp only [beq_eq_false_iff_ne, beq_iff_eq, bne_iff_ne, bne_eq_false_iff_eq]
              omega
            have hb : bytesAt st ((j2 : Int) + 1) o2 n = (x2.bs.drop o2.toNat).take n.toNat := by unfold bytesAt; rw [e2, hx2]; rfl
            rw [hb]
            exact (copy_ok (Lib.hid h) hN hn (Lib.hid hx) (Lib.hid hx2) (Lib.hid (by omega)) hk2 (wf_in i0 i1) hap' s1 s2 (Lib.hid HP) (Lib.hid HR)).mono fun e w' ⟨a, b, c⟩ => ⟨a, fun _ => ⟨b, c⟩, fun h0 => absurd rfl h0⟩
      · rw [show copyE st k i o k2 i2 o2 n = reachE st k2 i2 o2 n by unfold copyE; rw [if_neg hn, if_neg (fun h => h hE), if_pos hE2]]
        have HP := anyQ (k := k) (i := i) (o := o) (k2 := k2) (i2 := i2) (o2 := o2) (n := n) h (a := k) (b := i) (c := o) i0 i1 (by omega)
        rw [hE] at HP
        exact (copy_err2 hn (by simpa using hE2) (Lib.hid HP) (Lib.hid (anyQ h j0 j1 (by omega)))).mono fun e w' x => Wrote.no hE2 x
    · rw [show copyE st k i o k2 i2 o2 n = reachE st k i o n by unfold copyE; rw [if_neg hn, if_pos hE]]
      exact (copy_err1 hn (by simpa using hE) (Lib.hid (anyQ h i0 i1 (by omega)))).mono fun e w' x => Wrote.no hE x
end
end Go.Proofs.YtejhphnlickjlaaDoor.bl
