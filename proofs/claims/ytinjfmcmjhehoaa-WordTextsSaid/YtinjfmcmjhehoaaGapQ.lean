/-
  Three rows that lie apart: what appending to one, or calling another function, leaves of the others. No condition but the rows themselves.
-/
import Derived.Test.YtinjfmcmjhehoaaGapP
namespace Go.Proofs.Ytinjfmcmjhehoaa.gaps
open Go.ChangeShapes Go.WideShapes Go.ChangeAt Go.RowKit
open M G
set_option linter.unusedVariables false
/-! ### three rows that lie apart -/
def Ap (u v : Value) : Prop := ∀ g, u.ownBlock = some g → v.ownBlock ≠ some g
theorem Ap.symm {u v : Value} (h : Ap u v) : Ap v u := fun g hg hu => h g hu hg
theorem Ap.or {u v : Value} (h : Ap u v) : u.ownBlock = none ∨ u.ownBlock ≠ v.ownBlock := by
  rcases hu : u.ownBlock with _ | g
  · exact .inl rfl
  · exact .inr fun e => h g hu e.symm
structure T3 (w : World) (B : Nat) (vl vt vo : Value) (l tk : List Gap) (out : List Int) : Prop where
  ol : w.ownsRow B 47 2 vl l.length (cells l)
  ot : w.ownsRow B 47 2 vt tk.length (cells tk)
  oo : w.ownsRow B 3 1 vo out.length (ints out)
  lt : Ap vl vt
  lo : Ap vl vo
  tO : Ap vt vo
section
variable {w w' : World} {B : Nat} {vl vt vo vl' vt' vo' : Value} {l tk l' tk' : List Gap} {out out' : List Int}
theorem own_call {e : TypeId} {size n : Nat} {v : Value} {xs : List Value} (h : w.ownsRow B e size v n xs) (hb : Below w.heap.size w w') : w'.ownsRow B e size v n xs :=
  h.kept (row := none) ⟨hb.os, hb.tape, hb.output, hb.size, fun k hk _ => hb.block k hk⟩ (by
    rcases v.ownBlock with _ | g
    · exact .inl rfl
    · exact .inr (by simp))
theorem T3.call (h : T3 w B vl vt vo l tk out) (hb : Below w.heap.size w w') : T3 w' B vl vt vo l tk out :=
  ⟨own_call h.ol hb, own_call h.ot hb, own_call h.oo hb, h.lt, h.lo, h.tO⟩
theorem T3.fresh (h : T3 w B vl vt vo l tk out) (hb : Below w.heap.size w w') (hB : B ≤ w.heap.size) (hn : w'.ownsRow w.heap.size 47 2 vl' l'.length (cells l')) : T3 w' B vl' vt vo l' tk out := by
  have h' := h.call hb
  refine ⟨own_base hn hB, h'.ot, h'.oo, fun g hg hg2 => ?_, fun g hg hg2 => ?_, h.tO⟩
  · have := (hn.lt g hg).1
    have := (h.ot.lt g hg2).2
    omega
  · have := (hn.lt g hg).1
    have := (h.oo.lt g hg2).2
    omega
theorem T3.appT (h : T3 w B vl vt vo l tk out) (hg : w.grownBy w' vt.ownBlock) (hn : w'.ownsRow B 47 2 vt' tk'.length (cells tk')) (hat : vt'.ownBlock = vt.ownBlock ∨ vt'.ownBlock = some w.heap.size) : T3 w' B vl vt' vo l tk' out := by
  refine ⟨h.ol.kept hg h.lt.or, hn, h.oo.kept hg h.tO.symm.or, fun g hg1 hg2 => ?_, h.lo, fun g hg1 hg2 => ?_⟩
  · rcases hat with e | e
    · exact h.lt g hg1 (e ▸ hg2)
    · rw [e] at hg2
      injection hg2 with hg2
      have := (h.ol.lt g hg1).2
      omega
  · rcases hat with e | e
    · exact h.tO g (e ▸ hg1) hg2
    · rw [e] at hg1
      injection hg1 with hg1
      have := (h.oo.lt g hg2).2
      omega
theorem T3.appO (h : T3 w B vl vt vo l tk out) (hg : w.grownBy w' vo.ownBlock) (hn : w'.ownsRow B 3 1 vo' out'.length (ints out')) (hat : vo'.ownBlock = vo.ownBlock ∨ vo'.ownBlock = some w.heap.size) : T3 w' B vl vt vo' l tk out' := by
  refine ⟨h.ol.kept hg h.lo.or, h.ot.kept hg h.tO.or, hn, h.lt, fun g hg1 hg2 => ?_, fun g hg1 hg2 => ?_⟩
  · rcases hat with e | e
    · exact h.lo g hg1 (e ▸ hg2)
    · rw [e] at hg2
      injection hg2 with hg2
      have := (h.ol.lt g hg1).2
      omega
  · rcases hat with e | e
    · exact h.tO g hg1 (e ▸ hg2)
    · rw [e] at hg2
      injection hg2 with hg2
      have := (h.ot.lt g hg1).2
      omega
end
end Go.Proofs.Ytinjfmcmjhehoaa.gaps
