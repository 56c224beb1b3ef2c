/-
  The contract of Same of package block. Condition: a store stands in memory.
-/
import Derived.Test.YtejhphnlickjlaaDoorBmD
import Derived.Test.YtejhphnlickjlaaDoorBlN
set_option linter.unusedVariables false
set_option linter.unusedSimpArgs false
namespace Go.Proofs.YtejhphnlickjlaaDoor.bl
open Go.RowKit
open M ty
set_option linter.unusedVariables false
/-- a block's bytes, counted -/
def lenOf (st : St) (i : Int) : Int := (st.bl[(i - 1).toNat]?.map fun b => (b.bs.length : Int)).getD 0
/-- what Same hands back -/
def sameR (st : St) (k i o k2 i2 o2 : Int) : Bool × Int :=
  if fixedB k = true ∧ fixedB k2 = true then ((k == k2) && ((k == 3) || (i == i2)), 0)
  else if fixedB k = false ∧ reachE st k i o 0 ≠ 0 then (false, reachE st k i o 0)
  else if fixedB k2 = false ∧ reachE st k2 i2 o2 0 ≠ 0 then (false, reachE st k2 i2 o2 0)
  else if fixedB k = true ∨ fixedB k2 = true then (false, 0)
  else if i = i2 then (o == o2, 0)
  else if (kindOf st i = 1 ∧ kindOf st i2 = 1) ∨ o = lenOf st i ∨ o2 = lenOf st i2 then (false, 146) else (false, 0)
section
variable {w : World} {B g N : Nat} {st : St} {L : Lay}
theorem errS (h : Sto w B g N st L) {k i o k2 i2 o2 a b c : Int} (b0 : -9223372036854775808 ≤ b) (b1 : b ≤ 9223372036854775807) : ErrS w g k i o k2 i2 o2 a b c (reachE st a b c 0) := fun Z s0 s1 W hW => by
  obtain ⟨P, S, hf⟩ := reachR_form st L a b c 0
  have := reach_any (h.below hW.q.below) a b c 0 b0 b1 (Int.le_refl _)
  rw [hf] at this
  exact this.mono fun e w' ⟨x, y⟩ => ⟨⟨P, S, x⟩, hW.after y⟩
theorem seeS (h : Sto w B g N st L) {k i o k2 i2 o2 c : Int} {j : Nat} {x : Bk} (hj : st.bl[j]? = some x) (hd : x.dead = false) (o0 : 0 ≤ c) (hl : c ≤ x.bs.length) (i1 : (j : Int) + 1 ≤ 9223372036854775807) :
    SeeS w g k i o k2 i2 o2 2 ((j : Int) + 1) c (L.pb j) (L.py j) x.bs.length := fun Z s0 s1 W hW => by
  have := reach_any (h.below hW.q.below) 2 ((j : Int) + 1) c 0 (by omega) i1 (Int.le_refl _)
  rw [reachR_ok hj hd o0 (by omega) (Int.le_refl _)] at this
  exact this.mono fun e w' ⟨a, b⟩ => ⟨⟨_, a⟩, hW.after b, Go.Joins.cell_of_block (((h.below hW.q.below).below b).body j x hj).2.2.1 2⟩
theorem kindS (h : Sto w B g N st L) {k i o k2 i2 o2 : Int} {j : Nat} {x : Bk} (hj : st.bl[j]? = some x) (i1 : (j : Int) + 1 ≤ 9223372036854775807) :
    KindS w g k i o k2 i2 o2 ((j : Int) + 1) (L.pb j) x.kind := fun Z s0 s1 W hW => by
  have hjl := (List.getElem?_eq_some_iff.1 hj).1
  have hS := h.below hW.q.below
  have := of_any hS ((j : Int) + 1) (by omega) i1
  rw [show ofP st L ((j : Int) + 1) = .pointer (some ⟨L.pb j, 0, none⟩) by unfold ofP; rw [if_pos (by omega), show ((j : Int) + 1 - 1).toNat = j by omega]] at this
  exact this.mono fun e w' ⟨a, b⟩ => ⟨a, b, Go.Joins.cell_of_block (hS.body j x hj).2.2.1 0⟩
theorem same_any (h : Sto w B g N st L) (k i o k2 i2 o2 : Int) (i0 : -9223372036854775808 ≤ i) (i1 : i ≤ 9223372036854775807) (j0 : -9223372036854775808 ≤ i2) (j1 : i2 ≤ 9223372036854775807) :
    Calls Tryd.prog 31 #[.pointer (some ⟨g, 0, none⟩), vT k i o, vT k2 i2 o2] w fun e w' => e = .returned (.tuple #[.bool (sameR st k i o k2 i2 o2).1, .int .i64 (sameR st k i o k2 i2 o2).2]) ∧ Below w.heap.size w w' := by
  have HP : Hid (FixA k i o (fixedB k)) := Lib.hid (fun W => fixed_any k i o W)
  have HQ : Hid (FixA k2 i2 o2 (fixedB k2)) := Lib.hid (fun W => fixed_any k2 i2 o2 W)
  have EP : Hid (ErrS w g k i o k2 i2 o2 k i o (reachE st k i o 0)) := Lib.hid (errS h i0 i1)
  have EQ : Hid (ErrS w g k i o k2 i2 o2 k2 i2 o2 (reachE st k2 i2 o2 0)) := Lib.hid (errS h j0 j1)
  have notfix : ∀ {k i o : Int}, reachE st k i o 0 = 0 → fixedB k = false := fun {k i o} he => by obtain ⟨rfl, _⟩ := reach_zero he; rfl
  unfold vT sameR
  by_cases f1 : fixedB k = true
  · rw [f1] at HP
    by_cases f2 : fixedB k2 = true
    · rw [f2] at HQ
      rw [if_pos ⟨f1, f2⟩]
      by_cases hk : k = k2
      · have hk' : (k == k2) = true := by simpa using hk
        by_cases h3 : k = 3
        · have h3' : (k == 3) = true := by simpa using h3
          simp only [hk', h3', Bool.true_and, Bool.true_or]
          exact same_a2 HP HQ hk' h3'
        · have h3' : (k == 3) = false := by simpa using h3
          simp only [hk', h3', Bool.true_and, Bool.false_or]
          exact same_a3 HP HQ hk' h3'
      · have hk' : (k == k2) = false := by simpa using hk
        simp only [hk', Bool.false_and]
        exact same_a1 HP HQ hk'
    · have f2' : fixedB k2 = false := by simpa using f2
      rw [f2'] at HQ
      rw [if_neg (fun h => f2 h.2), if_neg (fun h => by rw [f1] at h; cases h.1)]
      by_cases hE : reachE st k2 i2 o2 0 = 0
      · rw [if_neg (fun h => h.2 hE), if_pos (.inl f1)]
        obtain ⟨rfl, h1, h2, o0, x, hx, hd, h3, h4⟩ := reach_zero hE
        obtain ⟨j, rfl⟩ : ∃ j : Nat, i2 = (j : Int) + 1 := ⟨(i2 - 1).toNat, by omega⟩
        rw [show ((j : Int) + 1 - 1).toNat = j by omega] at hx
        exact same_b2 HP HQ (Lib.hid (seeS h hx hd o0 h3 j1))
      · rw [if_pos ⟨f2', hE⟩]
        exact same_b1 HP HQ EQ (by simpa using hE)
  · have f1' : fixedB k = false := by simpa using f1
    rw [f1'] at HP
    rw [if_neg (fun h => f1 h.1)]
    by_cases hE : reachE st k i o 0 = 0
    · rw [if_neg (fun h => h.2 hE)]
      obtain ⟨rfl, h1, h2, o0, x, hx, hd, h3, h4⟩ := reach_zero hE
      obtain ⟨j, rfl⟩ : ∃ j : Nat, i = (j : Int) + 1 := ⟨(i - 1).toNat, by omega⟩
      have e1 : ((j : Int) + 1 - 1).toNat = j := by omega
      rw [e1] at hx
      have SP := fun {k2 i2 o2 : Int} => Lib.hid (seeS (k := 2) (i := (j : Int) + 1) (o := o) (k2 := k2) (i2 := i2) (o2 := o2) h hx hd o0 h3 i1)
      by_cases f2 : fixedB k2 = true
      · rw [f2] at HQ
        rw [if_neg (fun h => by rw [f2] at h; cases h.1), if_pos (.inr f2)]
        exact same_c2 HP HQ SP
      · have f2' : fixedB k2 = false := by simpa using f2
        rw [f2'] at HQ
        by_cases hE2 : reachE st k2 i2 o2 0 = 0
        · rw [if_neg (fun h => h.2 hE2), if_neg (fun h => h.elim f1 f2)]
          obtain ⟨rfl, h5, h6, o20, x2, hx2, hd2, h7, h8⟩ := reach_zero hE2
          obtain ⟨j2, rfl⟩ : ∃ j : Nat, i2 = (j : Int) + 1 := ⟨(i2 - 1).toNat, by omega⟩
          have e2 : ((j2 : Int) + 1 - 1).toNat = j2 := by omega
          rw [e2] at hx2
          have SQ := Lib.hid (seeS (k := 2) (i := (j : Int) + 1) (o := o) (k2 := 2) (i2 := (j2 : Int) + 1) (o2 := o2) h hx2 hd2 o20 h7 j1)
          have OP := Lib.hid (kindS (k := 2) (i := (j : Int) + 1) (o := o) (k2 := 2) (i2 := (j2 : Int) + 1) (o2 := o2) h hx i1)
          have OQ := Lib.hid (kindS (k := 2) (i := (j : Int) + 1) (o := o) (k2 := 2) (i2 := (j2 : Int) + 1) (o2 := o2) h hx2 j1)
          by_cases hi : (j : Int) + 1 = (j2 : Int) + 1
          · rw [if_pos hi]
            exact same_d3 HP HQ SP SQ (by simpa using hi)
          · rw [if_neg hi]
            have hi' : ((j : Int) + 1 == (j2 : Int) + 1) = false := by rw [beq_eq_false_iff_ne]; exact hi
            have l1 : lenOf st ((j : Int) + 1) = x.bs.length := by unfold lenOf; rw [e1, hx]; rfl
            have l2 : lenOf st ((j2 : Int) + 1) = x2.bs.length := by unfold lenOf; rw [e2, hx2]; rfl
            have k1 : kindOf st ((j : Int) + 1) = x.kind := by unfold kindOf; rw [e1, hx]; rfl
            have k2 : kindOf st ((j2 : Int) + 1) = x2.kind := by unfold kindOf; rw [e2, hx2]; rfl
            rw [l1, l2, k1, k2]
            by_cases t1 : x.kind = 1
            · have t1' : (x.kind == 1) = true := by simpa using t1
              by_cases t2 : x2.kind = 1
              · have t2' : (x2.kind == 1) = true := by simpa using t2
                rw [if_pos (.inl ⟨t1, t2⟩)]
                exact same_d4 HP HQ SP SQ hi' OP OQ t1' t2'
              · have t2' : (x2.kind == 1) = false := by simpa using t2
                by_cases q1 : o = x.bs.length
                · rw [if_pos (.inr (.inl q1))]
                  exact same_d8 HP HQ SP SQ hi' OP OQ t1' t2' (by simpa using q1)
                · by_cases q2 : o2 = x2.bs.length
                  · rw [if_pos (.inr (.inr q2))]
                    exact same_d9 HP HQ SP SQ hi' OP OQ t1' t2' (by simpa using q1) (by simpa using q2)
                  · rw [if_neg (fun h => h.elim (fun h => t2 h.2) (fun h => h.elim q1 q2))]
                    exact same_d10 HP HQ SP SQ hi' OP OQ t1' t2' (by simpa using q1) (by simpa using q2)
            · have t1' : (x.kind == 1) = false := by simpa using t1
              by_cases q1 : o = x.bs.length
              · rw [if_pos (.inr (.inl q1))]
                exact same_d5 HP HQ SP SQ hi' OP OQ t1' (by simpa using q1)
              · by_cases q2 : o2 = x2.bs.length
                · rw [if_pos (.inr (.inr q2))]
                  exact same_d6 HP HQ SP SQ hi' OP OQ t1' (by simpa using q1) (by simpa using q2)
                · rw [if_neg (fun h => h.elim (fun h => t1 h.1) (fun h => h.elim q1 q2))]
                  exact same_d7 HP HQ SP SQ hi' OP OQ t1' (by simpa using q1) (by simpa using q2)
        · rw [if_pos ⟨f2', hE2⟩]
          exact same_d2 HP HQ SP EQ (by simpa using hE2)
    · rw [if_pos ⟨f1', hE⟩]
      by_cases f2 : fixedB k2 = true
      · rw [f2] at HQ
        exact same_c1 HP HQ EP (by simpa using hE)
      · rw [show fixedB k2 = false by simpa using f2] at HQ
        exact same_d1 HP HQ EP (by simpa using hE)
end
end Go.Proofs.YtejhphnlickjlaaDoor.bl
