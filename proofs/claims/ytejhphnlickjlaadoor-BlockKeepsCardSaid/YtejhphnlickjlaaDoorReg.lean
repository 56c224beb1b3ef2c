/-
  A region that draws its order, walked once in the order of the text, over a class of worlds of one's own. No program in sight.
-/
import Derived.Deep.QuietTactic
set_option linter.unusedVariables false
set_option linter.unusedSimpArgs false
namespace Go.Proofs.YtejhphnlickjlaaDoor.M
set_option linter.unusedVariables false
section
variable {P : Program} {C : World → Prop}
/-- the walk in the order of the text, behind a name that nothing lays open -/
structure WQ (P : Program) (ops : Array Oper) (C : World → Prop) (Q : Act → Prop) (l : List Oper) (a : Act) : Prop where
  out : wpQuiet P ops C Q l a
theorem region_class {id : Nat} {Q : Exit → Act → World → Prop} {a : Act} {w : World} {l : List Oper} (hm : P.follows .mixedOrders = true) (hB : Region.lexB .any l.toArray = true) (hC : C w.drew)
    (h : WQ P l.toArray C (fun a' => ∀ w', C w' → Q .normal a' w') l a) : (Code.region id l.toArray true).wp P Q a w :=
  wp_region_quiet (C := C) hm hB hC (by simpa using h.out)
theorem q_take {ops : Array Oper} {Q : Act → Prop} {o : Oper} {rest : List Oper} {a a' : Act} {v : Value} (hw : Region.wanted o (yielded ops a.tmps) = true) (hv : ∀ w, C w → o.quietAt P a C w v)
    (ha : a.put o.dst v = a') (h : WQ P ops C Q rest a') : WQ P ops C Q (o :: rest) a := by
  subst ha
  constructor
  unfold wpQuiet
  rw [if_pos hw]
  exact ⟨v, hv, h.out⟩
theorem q_skip {ops : Array Oper} {Q : Act → Prop} {o : Oper} {rest : List Oper} {a a' : Act} (hw : Region.wanted o (yielded ops a.tmps) = false)
    (ha : a.put o.dst undef = a') (h : WQ P ops C Q rest a') : WQ P ops C Q (o :: rest) a := by
  subst ha
  constructor
  unfold wpQuiet
  rw [if_neg (by rw [hw]; decide)]
  exact h.out
theorem q_nil {ops : Array Oper} {Q : Act → Prop} {a : Act} (h : Q a) : WQ P ops C Q [] a := ⟨wpQuiet_nil h⟩
/-- at a call -/
theorem q_call {ops : Array Oper} {o : Oper} {a : Act} {v : Value} {w : World} {f : FuncId} {args : Array Value} (hrun : (execOp a.eval o).run P w = .ok (.enter f args) w)
    (h : Calls P f args w fun e w' => e = .returned v ∧ C w') : o.quietAt P a C w v := by
  unfold Oper.quietAt
  rw [hrun]
  exact ⟨rfl, h⟩
/-- at whatever yields at once -/
theorem q_value {o : Oper} {a : Act} {v : Value} {w : World} (hrun : (execOp a.eval o).run P w = .ok (.value v) w) : o.quietAt P a C w v := by
  unfold Oper.quietAt
  rw [hrun]
  exact ⟨rfl, rfl⟩
end
end Go.Proofs.YtejhphnlickjlaaDoor.M
