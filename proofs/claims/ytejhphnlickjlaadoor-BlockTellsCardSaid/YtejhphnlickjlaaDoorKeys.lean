/-
  The table of keywords stands in memory where the row says that it is laid; the door's own heap meets that. No condition.
-/
import Derived.Test.YtejhphnlickjlaaDoorTyD
import Derived.Test.YtejhphnlickjlaaDoorRows
import Derived.ProofKit
import Derived.LaidMore
import Derived.OpenShut
import Derived.Stop.Joined
set_option linter.unusedVariables false
set_option linter.unusedSimpArgs false
namespace Go.Proofs.YtejhphnlickjlaaDoor.ty
open Go.ChangeShapes Go.WideShapes Go.ChangeAt Go.RowKit
open M T
set_option linter.unusedVariables false
theorem gKeys : Tryd.prog.globalNamed "catapult/lex.keys" = some 0 := by kernel_rfl
theorem tKeys : (Tryd.prog.globals[0]?).map (·.type) = some 171 := by kernel_rfl
theorem cells9 : Tryd.prog.cellsOf 9 = 1 := by kernel_rfl
theorem keys_datum : (Rows.laid_catapult_lex_keys : DataW Unit) = .agg (keyStrs.map fun s => DataW.lit (Lit.string s.data.toList)) := by rfl
abbrev laidK : List (String × DataW Unit) := [("catapult/lex.keys", Rows.laid_catapult_lex_keys)]
/-- The door's own heap meets the condition. -/
theorem door_met (os : Os) (args : Array Value) : laidMetH Tryd.prog laidK ((World.doorLaid Tryd.prog 400 os).forCall (fun _ _ => 0) ⟨#[], args, []⟩).memory :=
  laidMetH_of_parts3 (fuel := 8) (laidMet_of_run' 8 (by kernel_rfl) (by kernel_rfl)) (by kernel_rfl) (by kernel_rfl)
theorem keys_of_laid {W : World} (h : laidMetH Tryd.prog laidK W) : KeysIn W := by
  rw [MakeChecks.laidMetH_plain _ _ _ (by kernel_rfl)] at h
  obtain ⟨ps, ⟨g0, t0, cs0, f0, p0, q0, hg0, ht0, hv0, hd0, _, _⟩, _, _⟩ := h
  obtain rfl := Option.some.inj (gKeys.symm.trans hg0)
  obtain rfl := Option.some.inj (tKeys.symm.trans ht0)
  rw [keys_datum] at hd0
  obtain ⟨xs, m, rfl, hx, hlen, hn, hel⟩ := DataW.trod_array Tryd.underlying171 hd0
  simp only [Prod.mk.injEq, DataW.agg.injEq] at hx
  rw [cells9] at hel
  have hk : keyStrs.length = 20 := rfl
  have each : ∀ (j : Nat) (s : ByteArray), keyStrs[j]? = some s → cs0[j]? = some (Value.string s) := by
    intro j s hs
    have hj : j < 20 := by rw [← hk]; exact (List.getElem?_eq_some_iff.1 hs).1
    have h1 := hel j hj
    have hxj : j < xs.length := by omega
    rw [List.getElem?_eq_getElem hxj] at h1
    obtain ⟨s', e1, e2, _⟩ := DataW.trod_string Tryd.underlying9 h1
    have h2 : (xs.map (·.1))[j]? = some (DataW.lit (Lit.string s.data.toList)) := by rw [← hx.1, List.getElem?_map, hs]; rfl
    rw [List.getElem?_map, List.getElem?_eq_getElem hxj, Option.map_some, e2] at h2
    have h3 : s'.data.toList = s.data.toList := by simpa using h2
    have h4 : s' = s := ByteArray.ext (Array.toList_inj.1 h3)
    subst h4
    have h5 : ((cs0.toList.drop (j * 1)).take 1)[0]? = some (Value.string s') := by rw [e1]; rfl
    rw [List.getElem?_take, if_pos (by omega), List.getElem?_drop] at h5
    simpa using h5
  intro hne
  have c0 := each 0 _ (List.getElem?_eq_getElem (by rw [hk]; omega))
  refine ⟨⟨0, 0, none⟩, rfl, ?_, fun j u hu => ?_⟩
  · exact World.block_lt_of_cell? W ⟨0, 0, none⟩ ((World.var?_cell hg0 hv0 0).trans c0)
  · rw [show (⟨0, 0, none⟩ : Addr).add j = ⟨0, j, none⟩ from by unfold Addr.add; split <;> simp_all, World.var?_cell hg0 hv0 j]
    unfold strs at hu
    rw [List.getElem?_map] at hu
    obtain ⟨s, hs, rfl⟩ := Option.map_eq_some_iff.1 hu
    exact each j s hs
end Go.Proofs.YtejhphnlickjlaaDoor.ty
