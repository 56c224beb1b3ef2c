/-
  What Play answers, as a plain function, and what becomes of three rows in its loop. No condition but the rows themselves.
-/
import Derived.Test.YtinjfmcmjhehoaaGapQ
import Derived.Outline
import Derived.Deep.RegionWith
namespace Go.Proofs.Ytinjfmcmjhehoaa.gaps
open Go.ChangeShapes Go.WideShapes Go.ChangeAt Go.RowKit
open M G
set_option linter.unusedVariables false
/-! ### Play -/
def playR (t : Int) (ns : List Int) : List Int × List Gap × Int :=
  if newE t ≠ 0 then ([], [], newE t) else if 4096 < ns.length then ([], [], 3) else if ns.any badSize then ([], [], 1) else ((plays t ns).out, (plays t ns).l, 0)
def PlayS (w : World) (r : List Int × List Gap × Int) (e : Ending) (w' : World) : Prop :=
  ∃ A1 c1 A2 c2, e = .returned (.tuple #[.slice A1 r.1.length c1, .slice A2 r.2.1.length c2, .int .i64 r.2.2]) ∧ r.1.length ≤ c1 ∧ c1 ≤ maxLen ∧ r.2.1.length ≤ c2 ∧ c2 ≤ maxLen ∧
    w'.ownsRow w.heap.size 3 1 (.slice A1 r.1.length c1) r.1.length (ints r.1) ∧ w'.ownsRow w.heap.size 47 2 (.slice A2 r.2.1.length c2) r.2.1.length (cells r.2.1) ∧ Below w.heap.size w w'
theorem nil_play (w w' : World) (er : Int) (hb : Below w.heap.size w w') : PlayS w ([], [], er) (.returned (.tuple #[.slice none 0 0, .slice none 0 0, .int .i64 er])) w' :=
  ⟨_, _, _, _, rfl, Nat.le_refl _, by simp [maxLen], Nat.le_refl _, by simp [maxLen], World.ownsRow_nil _ _ _ _, World.ownsRow_nil _ _ _ _, hb⟩
theorem info3 : (Try.prog.info? 3).map (fun i => (i.zero, i.size, i.bytes)) = some (some (.int .i64 0), 1, 8) := by kernel_rfl
/-- what one taking of the loop answers: the list and the place, or none -/
def TookS (w : World) (l : List Gap) (m : Int) (e : Ending) (w' : World) : Prop :=
  ∃ A' c', e = .returned (.tuple #[.slice A' (takeL l m (first l m)).length c', .int .i64 (l.getD (first l m) (0, 0)).1]) ∧ (takeL l m (first l m)).length ≤ c' ∧ c' ≤ maxLen ∧
    w'.ownsRow w.heap.size 47 2 (.slice A' (takeL l m (first l m)).length c') (takeL l m (first l m)).length (cells (takeL l m (first l m))) ∧ Below w.heap.size w w'
theorem took_any (A : Option Addr) (n c : Nat) (l : List Gap) (m t : Int) (w : World) (hl : l.length = n) (hn : n ≤ 4096) (hc : n ≤ c) (hA : Rd w w.heap.size A (cells l)) (ht : okTotal t = true) (hchk : chk t (-1) l = true) (hm : 0 < m) (hm2 : m ≤ 16777216) (hf : first l m < l.length) :
    Calls Try.prog 57 #[.slice A n c, .int .i64 m] w (TookS w l m) := by
  obtain ⟨t0, t1, t2⟩ := okTotal_bd ht
  obtain ⟨y, hy, hmy⟩ := first_there hf
  have by1 := grain_bd (chk_bounds hchk y (List.mem_of_getElem? hy))
  refine (take_yes A n c l m w hl hn hc hA _ rfl (by omega) y.1 y.2 hy hm hm2 by1.1 (by omega) (by omega)).mono ?_
  rintro e w' ⟨v, rfl, hown, hb⟩
  obtain ⟨A', c', rfl, h1, h2⟩ := own_form hown
  refine ⟨A', c', ?_, h1, h2, hown, hb⟩
  rw [show l.getD (first l m) (0, 0) = y from by simp [List.getD, hy]]
theorem grown_setCell (w : World) (a : Addr) (u : Value) : w.grownBy (w.setCell a u) (some a.block) :=
  ⟨rfl, rfl, rfl, by simp [World.setCell], fun k _ hne => Below.heap_setCell _ _ _ _ (fun e => hne (by rw [e]))⟩
section
variable {w w' : World} {B : Nat} {vl vt vo : Value} {l tk : List Gap} {out : List Int}
theorem T3.alloc (h : T3 w B vl vt vo l tk out) (o : Obj) : T3 (w.alloc o) B vl vt vo l tk out :=
  ⟨h.ol.alloc o, h.ot.alloc o, h.oo.alloc o, h.lt, h.lo, h.tO⟩
theorem T3.other {g : Nat} (h : T3 w B vl vt vo l tk out) (hg : w.grownBy w' (some g)) (h1 : vl.ownBlock ≠ some g) (h2 : vt.ownBlock ≠ some g) (h3 : vo.ownBlock ≠ some g) : T3 w' B vl vt vo l tk out :=
  ⟨h.ol.kept hg (.inr h1), h.ot.kept hg (.inr h2), h.oo.kept hg (.inr h3), h.lt, h.lo, h.tO⟩
theorem T3.setT {g n c j : Nat} {tk' : List Gap} (h : T3 w B vl (.slice (some ⟨g, 0, none⟩) n c) vo l tk out) (hn : tk.length = n) (u : Value) (hc : cells tk' = (cells tk).set j u) (hl : tk'.length = tk.length) :
    T3 (w.setCell ⟨g, j, none⟩ u) B vl (.slice (some ⟨g, 0, none⟩) n c) vo l tk' out := by
  subst hn
  obtain ⟨k1, k2⟩ := h.ot.stored j u
  refine ⟨h.ol.kept k2 (.inr fun e => h.lt g e rfl), ?_, h.oo.kept k2 (.inr fun e => h.tO g rfl e), h.lt, h.lo, h.tO⟩
  rw [hc, hl]
  exact k1
end
end Go.Proofs.Ytinjfmcmjhehoaa.gaps
