/-
  Plain laws of GapDisjoint: what the statement keeps of each taking, and that what it asks holds at each step. No condition but a total that New takes and sizes that Play takes.
-/
import Derived.Test.YtinjfmcmjhehoaaGapV
namespace Go.Proofs.Ytinjfmcmjhehoaa.gaps
open Go.ChangeShapes Go.WideShapes Go.ChangeAt Go.RowKit
open M G
set_option linter.unusedVariables false
/-- what the statement keeps of one taking: nothing of what is not held -/
def h1 (g : Gap) : Gap := if 0 < g.2 then g else (0, 0)
def heldOf (l : List Gap) : List Gap := l.map h1
theorem heldOf_length (l : List Gap) : (heldOf l).length = l.length := by simp [heldOf]
theorem heldOf_append (a : List Gap) (g : Gap) : heldOf (a ++ [g]) = heldOf a ++ [h1 g] := by simp [heldOf]
theorem heldOf_set (a : List Gap) (j : Nat) (g : Gap) : heldOf (a.set j g) = (heldOf a).set j (h1 g) := by simp [heldOf, List.map_set]
theorem heldOf_get {a : List Gap} {j : Nat} {y : Gap} (h : (heldOf a)[j]? = some y) : ∃ g, a[j]? = some g ∧ y = h1 g := by
  simp only [heldOf, List.getElem?_map] at h
  cases hg : a[j]? with
  | none => rw [hg] at h; cases h
  | some g => rw [hg] at h; injection h with h; exact ⟨g, rfl, h.symm⟩
theorem fsum_held : ∀ (l : List Gap), (∀ g ∈ l, 0 ≤ g.2) → fsum (heldOf l) = fsum l
  | [], _ => rfl
  | g :: r, h => by
    have hr := fsum_held r (fun o ho => h o (by simp [ho]))
    have hg := h g (by simp)
    show fsum (h1 g :: heldOf r) = _
    rw [fsum_cons, fsum_cons, hr]
    unfold h1
    split
    · rfl
    · simp only; omega
/-- the answer that one step gives -/
def ans (S : PS) (n : Int) : Int :=
  if 0 < n then (if first S.l (up n) < S.l.length then (S.l.getD (first S.l (up n)) (0, 0)).1 else -1)
  else if n < 0 ∧ -n ≤ S.tk.length ∧ 0 < (S.tk.getD (-n - 1).toNat (0, 0)).2 then (S.tk.getD (-n - 1).toNat (0, 0)).1 else -1
theorem pstep_out (S : PS) (n : Int) : (pstep S n).out = S.out ++ [ans S n] := by
  unfold pstep ans
  by_cases h : 0 < n
  · rw [if_pos h, if_pos h]
    split <;> rfl
  · rw [if_neg h, if_neg h]
    split <;> rfl
theorem out_prefix : ∀ (ns : List Int) (S : PS), ∃ r, (ns.foldl pstep S).out = S.out ++ r
  | [], S => ⟨[], by simp⟩
  | n :: ns, S => by
    obtain ⟨r, hr⟩ := out_prefix ns (pstep S n)
    rw [List.foldl_cons, hr, pstep_out]
    exact ⟨[ans S n] ++ r, by simp⟩
theorem out_at {t : Int} (ht : okTotal t = true) {ns : List Int} (hb : ∀ n ∈ ns, n ≤ 16777216) {k : Nat} {x : Int} (h : ns[k]? = some x) : (plays t ns).out[k]? = some (ans (plays t (ns.take k)) x) := by
  have hk : k < ns.length := (List.getElem?_eq_some_iff.1 h).1
  have hol := (inv_plays ht ns hb k (by omega)).ol
  have e : plays t ns = (ns.drop (k + 1)).foldl pstep (plays t (ns.take (k + 1))) := by
    conv => lhs; rw [← List.take_append_drop (k + 1) ns]
    unfold plays
    rw [List.foldl_append]
  obtain ⟨r, hr⟩ := out_prefix (ns.drop (k + 1)) (plays t (ns.take (k + 1)))
  rw [e, hr, plays_step h, pstep_out, List.append_assoc, List.getElem?_append_right (by omega), hol]
  simp
/-- a taking: where it lies, and that it meets nothing that is held -/
theorem dis_take {t : Int} {S : PS} {k : Nat} {x : Int} (ht : okTotal t = true) (h : Inv t S k) (hx : 0 < x) (hx2 : x ≤ 16777216) (hf : first S.l (up x) < S.l.length) :
    ∃ y, ans S x = y ∧ (pstep S x).tk = S.tk ++ [(y, up x)] ∧ 0 ≤ y ∧ y ≤ t - up x ∧ 16 ≤ up x ∧ up x ≤ 16777216 ∧ ∀ o ∈ S.tk, 0 < o.2 → ¬ (o.1 < y + up x ∧ y < o.1 + o.2) := by
  obtain ⟨u1, u2, u3, u4⟩ := up_bd x (by omega) hx2
  obtain ⟨y, hy, hmy⟩ := first_there hf
  have by1 := grain_bd (chk_bounds h.chk y (List.mem_of_getElem? hy))
  have e : S.l.getD (first S.l (up x)) (0, 0) = y := by simp [List.getD, hy]
  refine ⟨y.1, ?_, ?_, by omega, by omega, u1, u2, fun o ho ho2 => ?_⟩
  · unfold ans; rw [if_pos hx, if_pos hf, e]
  · unfold pstep; rw [if_pos hx, if_pos hf, e]
  · have ap := (apart_cov h.chk ho2).1 ((h.held o ho).2 ho2).2
    rintro ⟨m1, m2⟩
    rcases Int.lt_or_le o.1 y.1 with h3 | h3
    · exact ap y.1 ⟨y, List.mem_of_getElem? hy, by omega⟩ (by omega)
    · exact ap o.1 ⟨y, List.mem_of_getElem? hy, by omega⟩ (by omega)
theorem dis_no {t : Int} {S : PS} {x : Int} (hx : 0 < x) (hf : ¬ first S.l (up x) < S.l.length) : ans S x = -1 ∧ (pstep S x).tk = S.tk ++ [(-1, 0)] := by
  unfold ans pstep
  rw [if_pos hx, if_neg hf, if_pos hx, if_neg hf]
  exact ⟨rfl, rfl⟩
theorem dis_back {t : Int} {S : PS} {k : Nat} {x : Int} (h : Inv t S k) (hx : x < 0) (hl : -x ≤ S.tk.length) (y1 y2 : Int) (hy : S.tk[(-x - 1).toNat]? = some (y1, y2)) (hp : 0 < y2) :
    ans S x = y1 ∧ (pstep S x).tk = S.tk.set (-x - 1).toNat (y1, 0) ∧ grainB t (y1, y2) = true := by
  have e : S.tk.getD (-x - 1).toNat (0, 0) = (y1, y2) := by rw [List.getD, hy]; rfl
  have hx' : ¬ 0 < x := by omega
  have hc : x < 0 ∧ -x ≤ S.tk.length ∧ 0 < (S.tk.getD (-x - 1).toNat (0, 0)).2 := by rw [e]; exact ⟨hx, hl, hp⟩
  refine ⟨?_, ?_, ((h.held _ (List.mem_of_getElem? hy)).2 hp).1⟩
  · unfold ans; rw [if_neg hx', if_pos hc, e]
  · unfold pstep; rw [if_neg hx', if_pos hc, e]
theorem dis_none {S : PS} {x : Int} (hx : ¬ 0 < x) (hn : ¬ (x < 0 ∧ -x ≤ S.tk.length ∧ 0 < (S.tk.getD (-x - 1).toNat (0, 0)).2)) : ans S x = -1 ∧ (pstep S x).tk = S.tk := by
  unfold ans pstep
  rw [if_neg hx, if_neg hn, if_neg hx, if_neg hn]
  exact ⟨rfl, rfl⟩
/-- what holds at the end -/
theorem dis_end {t : Int} {S : PS} {k : Nat} (ht : okTotal t = true) (h : Inv t S k) (hk : k ≤ 200) : freeR t S.l = (fsum S.l, fgreat S.l, 0) ∧ fsum S.l + fsum (heldOf S.tk) = t := by
  have hll := h.ll
  have hc : checkE t S.l = 0 := by
    unfold checkE
    rw [if_pos ht, if_neg (by omega), if_pos h.chk]
  refine ⟨by simp [freeR, hc], ?_⟩
  rw [fsum_held _ fun g hg => (h.held g hg).1]
  exact h.sum
theorem dis_apart {t : Int} {S : PS} {k : Nat} (h : Inv t S k) {g o : Gap} (hg : g ∈ heldOf S.tk) (ho : o ∈ S.l) (hp : 0 < g.2) : ¬ (o.1 < g.1 + g.2 ∧ g.1 < o.1 + o.2) := by
  obtain ⟨g', hg', rfl⟩ := List.mem_map.1 hg
  unfold h1 at hp ⊢
  split at hp
  · rename_i hp'
    rw [if_pos hp']
    have := ((h.held g' hg').2 hp').2 o ho
    unfold meets at this
    exact of_decide_eq_false this
  · simp at hp
theorem held_bd {t : Int} {S : PS} {k : Nat} (ht : okTotal t = true) (h : Inv t S k) {g : Gap} (hg : g ∈ heldOf S.tk) : 0 ≤ g.1 ∧ g.1 ≤ 16777216 ∧ 0 ≤ g.2 ∧ g.2 ≤ 16777216 := by
  have tb := okTotal_bd ht
  obtain ⟨g', hg', rfl⟩ := List.mem_map.1 hg
  unfold h1
  split
  · rename_i hp'
    have := grain_bd ((h.held g' hg').2 hp').1
    omega
  · simp
theorem gaps_bd {t : Int} {S : PS} {k : Nat} (ht : okTotal t = true) (h : Inv t S k) {g : Gap} (hg : g ∈ S.l) : 0 ≤ g.1 ∧ g.1 ≤ 16777216 ∧ 0 ≤ g.2 ∧ g.2 ≤ 16777216 := by
  have tb := okTotal_bd ht
  have := grain_bd (chk_bounds h.chk g hg)
  omega
/-- Play's answer for at most 200 sizes -/
theorem play_200 {t : Int} (ns : List Int) (hl : ns.length ≤ 200) :
    (okTotal t = true ∧ ns.any badSize = false ∧ playR t ns = ((plays t ns).out, (plays t ns).l, 0)) ∨ (playR t ns = ([], [], 1)) := by
  unfold playR
  by_cases ht : okTotal t = true
  · rw [if_neg (by simp [newE_ok ht]), if_neg (by omega)]
    by_cases hb : ns.any badSize = true
    · exact .inr (by rw [if_pos hb])
    · exact .inl ⟨ht, by simpa using hb, by rw [if_neg hb]⟩
  · exact .inr (by rw [if_pos (by simp [newE_bad (show okTotal t = false by simpa using ht)]), newE_bad (show okTotal t = false by simpa using ht)])
theorem sizes_bd {ns : List Int} (h : ns.any badSize = false) : ∀ n ∈ ns, -16777216 ≤ n ∧ n ≤ 16777216 := by
  intro n hn
  have := List.any_eq_false.1 h n hn
  simp [badSize] at this
  omega
end Go.Proofs.Ytinjfmcmjhehoaa.gaps
