/-
  The contract of Kill of package block, whole. Condition: a store stands in memory.
-/
import Derived.Test.YtejhphnlickjlaaDoorBlL
import Derived.Test.YtejhphnlickjlaaDoorBlB
import Derived.Maps.Keyed
import Derived.Test.YtejhphnlickjlaaDoorBlN
set_option linter.unusedVariables false
set_option linter.unusedSimpArgs false
namespace Go.Proofs.YtejhphnlickjlaaDoor.bl
open Go.RowKit Go.Maps
open M ty
set_option linter.unusedVariables false
theorem law3 : Keyed Tryd.prog 3 := int_keyed Tryd.underlying3
theorem zero3 (w : World) : (zeroValue 3).run Tryd.prog w = .ok (.int .i64 0) w := by kernel_rfl
/-- the store behind the end of block j (counted from nought) -/
def St.kill (st : St) (j : Nat) : St :=
  match st.bl[j]? with
  | none => st
  | some b => ⟨st.bl.set j { b with dead := true }, wrap64 (st.live - 1), wrap64 (st.sum - b.bs.length)⟩
theorem kill_set {st : St} {j : Nat} {b : Bk} (hj : st.bl[j]? = some b) : st.kill j = ⟨st.bl.set j { b with dead := true }, wrap64 (st.live - 1), wrap64 (st.sum - b.bs.length)⟩ := by unfold St.kill; rw [hj]
section
variable {w : World} {B g N : Nat} {st : St} {L : Lay}
set_option maxRecDepth 20000 in
set_option maxHeartbeats 1600000 in
theorem kill_ok (h : Sto w B g N st L) (hN : N < 1099511627776) {j : Nat} {b : Bk} (hj : st.bl[j]? = some b) (hd : b.dead = false) (hwf : (Lit.int .i64 ((j : Int) + 1)).wf = true) :
    Calls Tryd.prog 33 #[.pointer (some ⟨g, 0, none⟩), .int .i64 ((j : Int) + 1)] w fun e w' => e = .returned (.int .i64 0) ∧ Sto w' B g (N + 1) (st.kill j) L ∧ Fr w w' g L st.bl.length := by
  rw [kill_set hj]
  obtain ⟨b1, b2, b3, b4, b5⟩ := h.body j b hj
  have hjl : j < st.bl.length := (List.getElem?_eq_some_iff.1 hj).1
  have hof : ofP st L ((j : Int) + 1) = .pointer (some ⟨L.pb j, 0, none⟩) := by unfold ofP; rw [if_pos (by omega), show ((j : Int) + 1 - 1).toNat = j by omega]
  have i1 : (j : Int) + 1 ≤ 9223372036854775807 := by
    have := h.row.2
    have h2 : (Lit.int .i64 ((j : Int) + 1)).wf = true := hwf
    simp [Lit.wf, IntKind.wrap_i64] at h2
    omega
  have HO : Hid (OfIs w g ((j : Int) + 1) (.pointer (some ⟨L.pb j, 0, none⟩))) := Lib.hid (by have := of_any h ((j : Int) + 1) (by omega) i1; rw [hof] at this; exact this)
  have HA : Hid (AliveIs w (L.pb j) true) := Lib.hid (by have := alive_any (L.pb j) b (L.py j) w b3; rw [hd] at this; exact this)
  -- the body's cell
  have H1 : Sto (w.setCell ⟨L.pb j, 1, none⟩ (.bool true)) B g N { st with bl := st.bl.set j { b with dead := true } } L :=
    h.setBody hj rfl (by have := heap_set b3 (o := 1) (.bool true); simpa [Bk.cells] using this) (fun q _ hq => heap_set_other _ hq)
  have f1 : w.frozen? ⟨L.pb j, 1, none⟩ = false := Go.Joins.unfrozen_of_block b3 1
  have e1 : w.cell? ⟨L.pb j, 1, none⟩ = some (.bool b.dead) := Go.Joins.cell_of_block b3 1
  obtain ⟨c0, c1, c2, c3⟩ := H1.topc
  obtain ⟨g0, g1, g2, g3⟩ := H1.topf
  have H2 : Hid (Sto ((w.setCell ⟨L.pb j, 1, none⟩ (.bool true)).setCell ⟨g, 1, none⟩ (.int .i64 (wrap64 (st.live - 1)))) B g N ⟨st.bl.set j { b with dead := true }, wrap64 (st.live - 1), st.sum⟩ L) :=
    Lib.hid (H1.setTop (by have := heap_set H1.top (o := 1) (.int .i64 (wrap64 (st.live - 1))); simpa using this) (fun q _ hq => heap_set_other _ hq))
  have HW : Hid (Fr w ((w.setCell ⟨L.pb j, 1, none⟩ (.bool true)).setCell ⟨g, 1, none⟩ (.int .i64 (wrap64 (st.live - 1)))) g L st.bl.length) := Lib.hid (((Fr.refl _ _ _ _).setCell (h.mine_pb hj) _).setCell h.mine_top _)
  clear H1 hof
  go_enter Tryd.func33, Tryd.ntmps33
  go_wp2_with (first | (go_at_call 67; refine HO.out.mono ?_; rintro e w1 ⟨rfl, rfl⟩) | (go_at_call 68; refine HA.out.mono ?_; rintro e w1 ⟨rfl, rfl⟩))
  generalize (w1.setCell ⟨L.pb j, 1, none⟩ (.bool true)).setCell ⟨g, 1, none⟩ (.int .i64 (wrap64 (st.live - 1))) = W2 at *
  have hb2 : (st.bl.set j { b with dead := true })[j]? = some { b with dead := true } := List.getElem?_set_self hjl
  have hbody := (H2.out.body j _ hb2).2.2.1
  have q2 : W2.cell? ⟨L.pb j, 2, none⟩ = some (.slice (some ⟨L.py j, 0, none⟩) b.bs.length b.bs.length) := Go.Joins.cell_of_block hbody 2
  have t2 := H2.out.topc.2.2.1
  have t3 := H2.out.topc.2.2.2
  have u2 := H2.out.topf.2.2.1
  simp only at t2
  clear c0 c1 c2 c3 g0 g1 g2 g3 e1 f1 hbody hb2 b3 b4
  go_region
  have hkey : keyOf Tryd.prog 3 (.int .i64 ((j : Int) + 1)) = some (.int .i64 ((j : Int) + 1)) := keyOf_int_mk Tryd.underlying3 hwf
  have H3 : Hid (Sto (W2.setCell ⟨g, 2, none⟩ (.int .i64 (wrap64 (st.sum - b.bs.length)))).drew B g N ⟨st.bl.set j { b with dead := true }, wrap64 (st.live - 1), wrap64 (st.sum - b.bs.length)⟩ L) :=
    Lib.hid ((H2.out.setTop (by have := heap_set H2.out.top (o := 2) (.int .i64 (wrap64 (st.sum - b.bs.length))); simpa using this) (fun q _ hq => heap_set_other _ hq)).drew)
  have HW3 : Hid (Fr w1 (W2.setCell ⟨g, 2, none⟩ (.int .i64 (wrap64 (st.sum - b.bs.length)))).drew g L st.bl.length) := Lib.hid ((HW.out.setCell h.mine_top _).drew)
  obtain ⟨D, hD⟩ := H3.out.map
  have HD := Lib.hid hD
  have HM := Lib.hid H3.out.Bm
  clear hD
  go_wp2_with (first
    | (at_lookup; refine wpList_lookup_own_int _ rfl _ _ 104 rfl 3 3 .i64 law3 Tryd.underlying104 Tryd.underlying3 (zero3 _) L.gm N D rfl HD.out _ _ rfl hkey ?_; intro c hat hwc; clear hat)
    | (at_mapUpdate; refine wpList_mapUpdate_own _ rfl _ _ _ 104 rfl 3 3 law3 Tryd.underlying104 _ L.gm N D rfl HD.out (by simp only [maxLen]; omega) _ _ _ rfl rfl hkey _ [] (plainElem_int Tryd.underlying3 (wrap64_wf _)) ?_; intro w4 hown4 hgrow4; have H4 := Lib.hid (H3.out.setMap hown4 hgrow4); have HW4 := Lib.hid (HW3.out.grown hgrow4 (fun r e => by have := Option.some.inj e; subst this; exact h.mine_map)); clear hown4 hgrow4))
  go_ret
  exact ⟨rfl, H4.out, HW4.out⟩
theorem kill_none (g : Nat) (x : Int) (w : World) (HO : Hid (OfIs w g x (.pointer none))) : Calls Tryd.prog 33 #[.pointer (some ⟨g, 0, none⟩), .int .i64 x] w fun e w' => e = .returned (.int .i64 4) ∧ w' = w := by
  go_enter Tryd.func33, Tryd.ntmps33
  go_wp2_with (go_at_call 67; refine HO.out.mono ?_; rintro e w1 ⟨rfl, rfl⟩)
  go_ret
  exact ⟨rfl, rfl⟩
theorem kill_dead (g p : Nat) (x : Int) (w : World) (HO : Hid (OfIs w g x (.pointer (some ⟨p, 0, none⟩)))) (HA : Hid (AliveIs w p false)) : Calls Tryd.prog 33 #[.pointer (some ⟨g, 0, none⟩), .int .i64 x] w fun e w' => e = .returned (.int .i64 140) ∧ w' = w := by
  go_enter Tryd.func33, Tryd.ntmps33
  go_wp2_with (first | (go_at_call 67; refine HO.out.mono ?_; rintro e w1 ⟨rfl, rfl⟩) | (go_at_call 68; refine HA.out.mono ?_; rintro e w1 ⟨rfl, rfl⟩))
  go_ret
  exact ⟨rfl, rfl⟩
end
end Go.Proofs.YtejhphnlickjlaaDoor.bl
namespace Go.Proofs.YtejhphnlickjlaaDoor.bl
open Go.RowKit Go.Maps
open M ty
set_option linter.unusedVariables false
theorem kill_length (st : St) (j : Nat) : (st.kill j).bl.length = st.bl.length := by
  unfold St.kill
  split <;> simp
/-- the error of Kill -/
def killE (st : St) (x : Int) : Int := if 1 ≤ x ∧ x ≤ st.bl.length then (if ((st.bl[(x - 1).toNat]?.map Bk.dead).getD false) = true then 140 else 0) else 4
section
variable {w : World} {B g N : Nat} {st : St} {L : Lay}
theorem kill_any (h : Sto w B g N st L) (hN : N < 1099511627776) (x : Int) (i0 : -9223372036854775808 ≤ x) (i1 : x ≤ 9223372036854775807) :
    Calls Tryd.prog 33 #[.pointer (some ⟨g, 0, none⟩), .int .i64 x] w fun e w' => Wrote w B g N (st.kill (x - 1).toNat) L (killE st x) e w' := by
  have HO : OfIs w g x (ofP st L x) := of_any h x i0 i1
  by_cases hi : 1 ≤ x ∧ x ≤ st.bl.length
  · obtain ⟨j, rfl⟩ : ∃ j : Nat, x = (j : Int) + 1 := ⟨(x - 1).toNat, by omega⟩
    have e1 : ((j : Int) + 1 - 1).toNat = j := by omega
    have hj : j < st.bl.length := by omega
    have hb : st.bl[j]? = some st.bl[j] := List.getElem?_eq_getElem hj
    have hE : killE st ((j : Int) + 1) = if st.bl[j].dead = true then 140 else 0 := by unfold killE; rw [if_pos hi, e1, hb]; rfl
    rw [hE, e1]
    by_cases hd : st.bl[j].dead = true
    · have hof : ofP st L ((j : Int) + 1) = .pointer (some ⟨L.pb j, 0, none⟩) := by unfold ofP; rw [if_pos hi, e1]
      rw [hof] at HO
      have HA : AliveIs w (L.pb j) false := by have := alive_any (L.pb j) st.bl[j] (L.py j) w (h.body j _ hb).2.2.1; rw [hd] at this; exact this
      rw [if_pos hd]
      exact (kill_dead g (L.pb j) _ w (Lib.hid HO) (Lib.hid HA)).mono fun e w' ⟨e1, e2⟩ => Wrote.no (by decide) ⟨e1, by subst e2; exact Below.refl _ _⟩
    · rw [if_neg hd]
      exact (kill_ok h hN hb (by simpa using hd) (wf_in i0 i1)).mono fun e w' ⟨e1, e2, e3⟩ => ⟨e1, fun _ => ⟨e2, by rw [kill_length]; exact e3⟩, fun h0 => absurd rfl h0⟩
  · have hof : ofP st L x = .pointer none := by unfold ofP; rw [if_neg hi]
    rw [hof] at HO
    rw [show killE st x = 4 by unfold killE; rw [if_neg hi]]
    exact (kill_none g x w (Lib.hid HO)).mono fun e w' ⟨e1, e2⟩ => Wrote.no (by decide) ⟨e1, by subst e2; exact Below.refl _ _⟩
end
end Go.Proofs.YtejhphnlickjlaaDoor.bl
