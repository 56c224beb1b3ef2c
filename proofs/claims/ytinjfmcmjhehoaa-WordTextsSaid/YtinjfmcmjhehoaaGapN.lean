/-
  Plain laws of gap lists: what a list covers, that a list is told by what it covers, what taking and giving do to it. No condition but that the list is one that Check takes.
-/
import Derived.Test.YtinjfmcmjhehoaaGapM
namespace Go.Proofs.Ytinjfmcmjhehoaa.gaps
open Go.ChangeShapes Go.WideShapes Go.ChangeAt Go.RowKit
open M G
set_option linter.unusedVariables false
theorem fold_shift : ∀ (l : List Gap) (a : Int), l.foldl (fun a g => a + g.2) a = a + l.foldl (fun a g => a + g.2) 0
  | [], a => by simp
  | g :: r, a => by
    rw [List.foldl_cons, List.foldl_cons, fold_shift r (a + g.2), fold_shift r (0 + g.2)]
    omega
theorem fsum_cons (g : Gap) (r : List Gap) : fsum (g :: r) = g.2 + fsum r := by
  unfold fsum
  rw [List.foldl_cons, fold_shift]
  omega
theorem fsum_nil : fsum [] = 0 := rfl
theorem fsum_append : ∀ (a b : List Gap), fsum (a ++ b) = fsum a + fsum b
  | [], b => by simp [fsum_nil]
  | g :: r, b => by rw [List.cons_append, fsum_cons, fsum_cons, fsum_append r b]; omega
/-! ### what a list covers -/
def cov (l : List Gap) (x : Int) : Prop := ∃ g ∈ l, g.1 ≤ x ∧ x < g.1 + g.2
theorem cov_nil (x : Int) : ¬ cov [] x := fun ⟨_, h, _⟩ => by cases h
theorem cov_cons (g : Gap) (r : List Gap) (x : Int) : cov (g :: r) x ↔ (g.1 ≤ x ∧ x < g.1 + g.2) ∨ cov r x := by
  unfold cov
  simp
theorem cov_append (a b : List Gap) (x : Int) : cov (a ++ b) x ↔ cov a x ∨ cov b x := by
  unfold cov
  constructor
  · rintro ⟨g, hg, h⟩
    rcases List.mem_append.1 hg with h1 | h1
    · exact .inl ⟨g, h1, h⟩
    · exact .inr ⟨g, h1, h⟩
  · rintro (⟨g, hg, h⟩ | ⟨g, hg, h⟩)
    · exact ⟨g, List.mem_append.2 (.inl hg), h⟩
    · exact ⟨g, List.mem_append.2 (.inr hg), h⟩
theorem chk_parts {t e : Int} {g : Gap} {r : List Gap} (h : chk t e (g :: r) = true) : grainB t g = true ∧ e < g.1 ∧ chk t (g.1 + g.2) r = true := by
  rw [chk_cons] at h
  simp at h
  exact ⟨h.1.1, h.1.2, h.2⟩
theorem chk_mk {t e : Int} {g : Gap} {r : List Gap} (h1 : grainB t g = true) (h2 : e < g.1) (h3 : chk t (g.1 + g.2) r = true) : chk t e (g :: r) = true := by
  rw [chk_cons]
  simp [h1, h2, h3]
theorem chk_low {t : Int} : ∀ {l : List Gap} {e x : Int}, chk t e l = true → cov l x → e < x
  | [], _, _, _, h => absurd h (cov_nil _)
  | g :: r, e, x, h, hc => by
    obtain ⟨h1, h2, h3⟩ := chk_parts h
    have := grain_bd h1
    rcases (cov_cons g r x).1 hc with h4 | h4
    · omega
    · have := chk_low h3 h4
      omega
theorem chk_unique {t : Int} : ∀ {l l' : List Gap} {e e' : Int}, chk t e l = true → chk t e' l' = true → (∀ x, cov l x ↔ cov l' x) → l = l'
  | [], [], _, _, _, _, _ => rfl
  | [], g :: r, _, _, _, h, hc => by
    have := grain_bd (chk_parts h).1
    exact absurd ((hc g.1).2 ((cov_cons g r g.1).2 (.inl (by omega)))) (cov_nil _)
  | g :: r, [], _, _, h, _, hc => by
    have := grain_bd (chk_parts h).1
    exact absurd ((hc g.1).1 ((cov_cons g r g.1).2 (.inl (by omega)))) (cov_nil _)
  | g :: r, g' :: r', e, e', h, h', hc => by
    obtain ⟨h1, h2, h3⟩ := chk_parts h
    obtain ⟨h1', h2', h3'⟩ := chk_parts h'
    have b := grain_bd h1
    have b' := grain_bd h1'
    have low : ∀ x, cov r x → g.1 + g.2 < x := fun x hx => chk_low h3 hx
    have low' : ∀ x, cov r' x → g'.1 + g'.2 < x := fun x hx => chk_low h3' hx
    have c1 : g'.1 ≤ g.1 := by
      rcases (cov_cons g' r' g.1).1 ((hc g.1).1 ((cov_cons g r g.1).2 (.inl (by omega)))) with h | h
      · omega
      · have := low' _ h; omega
    have c2 : g.1 ≤ g'.1 := by
      rcases (cov_cons g r g'.1).1 ((hc g'.1).2 ((cov_cons g' r' g'.1).2 (.inl (by omega)))) with h | h
      · omega
      · have := low _ h; omega
    have d1 : ¬ g.1 + g.2 < g'.1 + g'.2 := fun hl => by
      rcases (cov_cons g r (g.1 + g.2)).1 ((hc _).2 ((cov_cons g' r' (g.1 + g.2)).2 (.inl (by omega)))) with h | h
      · omega
      · have := low _ h; omega
    have d2 : ¬ g'.1 + g'.2 < g.1 + g.2 := fun hl => by
      rcases (cov_cons g' r' (g'.1 + g'.2)).1 ((hc _).1 ((cov_cons g r (g'.1 + g'.2)).2 (.inl (by omega)))) with h | h
      · omega
      · have := low' _ h; omega
    have hg : g = g' := Prod.ext (by omega) (by omega)
    subst hg
    have hr : r = r' := chk_unique h3 h3' (fun x => by
      constructor
      · intro hx
        rcases (cov_cons g r' x).1 ((hc x).1 ((cov_cons g r x).2 (.inr hx))) with h | h
        · have := low _ hx; omega
        · exact h
      · intro hx
        rcases (cov_cons g r x).1 ((hc x).2 ((cov_cons g r' x).2 (.inr hx))) with h | h
        · have := low' _ hx; omega
        · exact h)
    rw [hr]
def endOf (e : Int) (a : List Gap) : Int := match a.getLast? with | some x => x.1 + x.2 | none => e
theorem endOf_nil (e : Int) : endOf e [] = e := rfl
theorem endOf_append (e : Int) (a : List Gap) (x : Gap) : endOf e (a ++ [x]) = x.1 + x.2 := by simp [endOf]
theorem endOf_cons (e : Int) (g : Gap) (r : List Gap) : endOf e (g :: r) = endOf (g.1 + g.2) r := by
  rcases List.eq_nil_or_concat r with rfl | ⟨a, y, rfl⟩
  · simp [endOf]
  · rw [List.concat_eq_append, ← List.cons_append, endOf_append, endOf_append]
theorem chk_append (t : Int) : ∀ (a b : List Gap) (e : Int), chk t e (a ++ b) = (chk t e a && chk t (endOf e a) b)
  | [], b, e => by simp [endOf, chk]
  | g :: r, b, e => by
    rw [List.cons_append, chk_cons, chk_cons, chk_append t r b, endOf_cons, Bool.and_assoc, Bool.and_assoc, Bool.and_assoc]
theorem joined_ok {t e : Int} {a : List Gap} {g : Gap} (ha : chk t e a = true) (hg : grainB t g = true) (he : e < g.1) (hend : endOf e a ≤ g.1) :
    chk t e (joined a g) = true ∧ endOf e (joined a g) = g.1 + g.2 ∧ (∀ x, cov (joined a g) x ↔ cov a x ∨ (g.1 ≤ x ∧ x < g.1 + g.2)) ∧ fsum (joined a g) = fsum a + g.2 ∧ (joined a g).length ≤ a.length + 1 := by
  rcases List.eq_nil_or_concat a with rfl | ⟨a, y, rfl⟩
  · refine ⟨chk_mk hg he rfl, rfl, fun x => ?_, ?_, Nat.le_refl _⟩
    · rw [show joined [] g = [g] from rfl, cov_cons]
      simp [cov_nil]
    · rw [show joined [] g = [g] from rfl, fsum_cons, fsum_nil]; omega
  · rw [List.concat_eq_append] at *
    rw [endOf_append] at hend
    rw [chk_append] at ha
    simp only [Bool.and_eq_true] at ha
    obtain ⟨ha1, ha2⟩ := ha
    obtain ⟨y1, y2, -⟩ := chk_parts ha2
    have by1 := grain_bd y1
    have bg := grain_bd hg
    by_cases ht : y.1 + y.2 = g.1
    · have e1 : joined (a ++ [y]) g = a ++ [(y.1, y.2 + g.2)] := by simp [joined, ht]
      rw [e1]
      refine ⟨?_, ?_, fun x => ?_, ?_, by simp⟩
      · rw [chk_append, ha1, Bool.true_and]
        exact chk_mk (decide_eq_true ⟨by omega, by omega, by simp only; omega, by simp only; omega, by simp only; omega, by simp only; omega⟩) y2 rfl
      · rw [endOf_append]; simp only; omega
      · rw [cov_append, cov_append, cov_cons, cov_cons]
        simp only [cov_nil, or_false]
        constructor
        · rintro (h | h)
          · exact .inl (.inl h)
          · rcases Int.lt_or_le x (y.1 + y.2) with h1 | h1
            · exact .inl (.inr (by omega))
            · exact .inr (by omega)
        · rintro ((h | h) | h)
          · exact .inl h
          · exact .inr (by omega)
          · exact .inr (by omega)
      · simp only [fsum_append, fsum_cons, fsum_nil]; omega
    · have e1 : joined (a ++ [y]) g = a ++ [y] ++ [g] := by simp [joined, ht]
      rw [e1]
      refine ⟨?_, ?_, fun x => ?_, ?_, by simp⟩
      · rw [chk_append, chk_append, ha1, ha2, Bool.true_and, Bool.true_and, endOf_append]
        exact chk_mk hg (by omega) rfl
      · rw [endOf_append]
      · rw [cov_append, cov_cons]
        simp only [cov_nil, or_false]
      · simp only [fsum_append, fsum_cons, fsum_nil]; omega
theorem cov_bound {t : Int} : ∀ {l : List Gap} {e x : Int}, chk t e l = true → cov l x → 0 ≤ x ∧ x < t
  | [], _, _, _, h => absurd h (cov_nil _)
  | g :: r, e, x, h, hc => by
    obtain ⟨h1, h2, h3⟩ := chk_parts h
    have := grain_bd h1
    rcases (cov_cons g r x).1 hc with h4 | h4
    · omega
    · exact cov_bound h3 h4
/-- a range apart from all gaps -/
def apart (l : List Gap) (g : Gap) : Prop := ∀ o ∈ l, meets g o = false
theorem giveL_ok {t e : Int} {l : List Gap} {g : Gap} (hl : chk t e l = true) (hg : grainB t g = true) (he : e < g.1) (hap : apart l g) :
    chk t e (giveL l g) = true ∧ (∀ x, cov (giveL l g) x ↔ cov l x ∨ (g.1 ≤ x ∧ x < g.1 + g.2)) ∧ fsum (giveL l g) = fsum l + g.2 ∧ (giveL l g).length ≤ l.length + 1 := by
  have hsplit : l.take (behind l g) ++ l.drop (behind l g) = l := List.take_append_drop _ _
  have hbe : ∀ o ∈ l.take (behind l g), o.1 ≤ g.1 := by
    intro o ho
    obtain ⟨i, hi, rfl⟩ := List.getElem_of_mem ho
    rw [List.length_take] at hi
    have h1 : i < behind l g := by omega
    have := List.not_of_lt_findIdx (p := fun o : Gap => decide (g.1 < o.1)) h1
    rw [List.getElem_take]
    simpa using this
  have hbg := grain_bd hg
  have hapa : ∀ o ∈ l.take (behind l g), meets g o = false := fun o ho => hap o (List.mem_of_mem_take ho)
  have hapb : ∀ o ∈ l.drop (behind l g), meets g o = false := fun o ho => hap o (List.mem_of_mem_drop ho)
  have hfirst : ∀ r rs, l.drop (behind l g) = r :: rs → g.1 < r.1 := by
    intro r rs h
    have hlt : behind l g < l.length := by
      rcases Nat.lt_or_ge (behind l g) l.length with h1 | h1
      · exact h1
      · rw [List.drop_eq_nil_of_le h1] at h; cases h
    have h2 := List.findIdx_getElem (p := fun o : Gap => decide (g.1 < o.1)) (w := hlt)
    rw [drop_cons l _ hlt] at h
    injection h with h3 _
    rw [← h3]
    exact of_decide_eq_true h2
  unfold giveL
  generalize l.take (behind l g) = a at *
  generalize l.drop (behind l g) = b at *
  subst hsplit
  rw [chk_append] at hl
  simp only [Bool.and_eq_true] at hl
  obtain ⟨ha, hb⟩ := hl
  have hend : endOf e a ≤ g.1 := by
    rcases List.eq_nil_or_concat a with rfl | ⟨a', y, rfl⟩
    · rw [endOf_nil]; omega
    · rw [List.concat_eq_append] at *
      rw [endOf_append]
      have h1 := hbe y (by simp)
      have h2 := hapa y (by simp)
      unfold meets at h2
      have h3 := of_decide_eq_false h2
      omega
  obtain ⟨j1, j2, j3, j4, j5⟩ := joined_ok ha hg he hend
  match b, hb, hfirst, hapb with
  | [], _, _, _ =>
    simp only [List.append_nil]
    exact ⟨j1, j3, j4, j5⟩
  | r :: rs, hb, hfirst, hapb =>
    obtain ⟨r1, r2, r3⟩ := chk_parts hb
    have br := grain_bd r1
    have h1 := hfirst r rs rfl
    have h2 := hapb r (by simp)
    unfold meets at h2
    have h3 := of_decide_eq_false h2
    obtain ⟨k1, k2, k3, k4, k5⟩ := joined_ok j1 r1 (by omega) (by rw [j2]; omega)
    refine ⟨?_, fun x => ?_, ?_, ?_⟩
    · simp only
      rw [chk_append, k1, k2, Bool.true_and]
      exact r3
    · simp only
      rw [cov_append, cov_append, k3, j3, cov_cons]
      constructor
      · rintro (((h | h) | h) | h)
        · exact .inl (.inl h)
        · exact .inr h
        · exact .inl (.inr (.inl h))
        · exact .inl (.inr (.inr h))
      · rintro ((h | h | h) | h)
        · exact .inl (.inl (.inl h))
        · exact .inl (.inr h)
        · exact .inr h
        · exact .inl (.inl (.inr h))
    · simp only
      rw [fsum_append, fsum_append, k4, j4, fsum_cons]; omega
    · simp only [List.length_append, List.length_cons] at *
      omega
theorem chk_end {t : Int} : ∀ {a : List Gap} {e x : Int}, chk t e a = true → cov a x → x < endOf e a
  | [], _, _, _, h => absurd h (cov_nil _)
  | g :: r, e, x, h, hc => by
    obtain ⟨h1, h2, h3⟩ := chk_parts h
    rw [endOf_cons]
    have hle : ∀ {r : List Gap} {e : Int}, chk t e r = true → e ≤ endOf e r := by
      intro r
      induction r with
      | nil => intro e _; exact Int.le_refl _
      | cons g' r' ih =>
        intro e h
        obtain ⟨k1, k2, k3⟩ := chk_parts h
        have := grain_bd k1
        have := ih k3
        rw [endOf_cons]; omega
    rcases (cov_cons g r x).1 hc with h4 | h4
    · have := hle h3; omega
    · exact chk_end h3 h4
theorem chk_weak {t e e' : Int} {l : List Gap} (h : chk t e l = true) (he : e' ≤ e) : chk t e' l = true := by
  match l, h with
  | [], _ => rfl
  | g :: r, h =>
    obtain ⟨h1, h2, h3⟩ := chk_parts h
    exact chk_mk h1 (by omega) h3
theorem takeL_ok {t : Int} {m : Int} (hm : 0 < m) (hm16 : m % 16 = 0) {l : List Gap} {e : Int} {k : Nat} (hl : chk t e l = true) (hk : k < l.length) (y : Gap) (hy : l[k]? = some y) (hmk : m ≤ y.2) :
    chk t e (takeL l m k) = true ∧ (∀ x, cov l x ↔ cov (takeL l m k) x ∨ (y.1 ≤ x ∧ x < y.1 + m)) ∧ (∀ x, cov (takeL l m k) x → ¬ (y.1 ≤ x ∧ x < y.1 + m)) ∧ fsum l = fsum (takeL l m k) + m ∧ (takeL l m k).length ≤ l.length := by
  have hyk : l[k] = y := (List.getElem?_eq_some_iff.1 hy).2
  have hs : l = l.take k ++ y :: l.drop (k + 1) := by rw [← hyk, ← drop_cons l k hk, List.take_append_drop]
  have hd : l.getD k (0, 0) = y := by simp [List.getD, hy]
  unfold takeL
  rw [hd]
  clear hd hyk hy hk
  generalize l.take k = a at *
  generalize l.drop (k + 1) = b at *
  subst hs
  rw [chk_append] at hl
  simp only [Bool.and_eq_true] at hl
  obtain ⟨ha, hb⟩ := hl
  obtain ⟨y1, y2, y3⟩ := chk_parts hb
  have by1 := grain_bd y1
  have lowa : ∀ x, cov a x → x < y.1 := fun x hx => by have := chk_end ha hx; omega
  have lowb : ∀ x, cov b x → y.1 + y.2 < x := fun x hx => chk_low y3 hx
  by_cases hlt : m < y.2
  · rw [show left y m = [(y.1 + m, y.2 - m)] from if_pos hlt]
    have covz : ∀ x, cov (a ++ [(y.1 + m, y.2 - m)] ++ b) x ↔ cov a x ∨ (y.1 + m ≤ x ∧ x < y.1 + y.2) ∨ cov b x := fun x => by
      rw [cov_append, cov_append, cov_cons]
      simp only [cov_nil, or_false, or_assoc]
      rw [show y.1 + m + (y.2 - m) = y.1 + y.2 from by omega]
    refine ⟨?_, fun x => ?_, fun x hx => ?_, ?_, ?_⟩
    · rw [List.append_assoc, chk_append, ha, Bool.true_and]
      refine chk_mk (decide_eq_true ⟨by simp only; omega, by simp only; omega, by simp only; omega, by simp only; omega, by simp only; omega, by simp only; omega⟩) (by simp only; omega) ?_
      simp only
      rw [show y.1 + m + (y.2 - m) = y.1 + y.2 from by omega]
      exact y3
    · rw [covz, cov_append, cov_cons]
      constructor
      · rintro (h | h | h)
        · exact .inl (.inl h)
        · rcases Int.lt_or_le x (y.1 + m) with h1 | h1
          · exact .inr (by omega)
          · exact .inl (.inr (.inl (by omega)))
        · exact .inl (.inr (.inr h))
      · rintro ((h | h | h) | h)
        · exact .inl h
        · exact .inr (.inl (by omega))
        · exact .inr (.inr h)
        · exact .inr (.inl (by omega))
    · rcases (covz x).1 hx with h | h | h
      · have := lowa x h; omega
      · omega
      · have := lowb x h; omega
    · simp only [fsum_append, fsum_cons, fsum_nil]; omega
    · simp only [List.length_append, List.length_cons, List.length_nil]; omega
  · have e1 : y.2 = m := by omega
    rw [show left y m = [] from if_neg hlt, List.append_nil]
    refine ⟨?_, fun x => ?_, fun x hx => ?_, ?_, ?_⟩
    · rw [chk_append, ha, Bool.true_and]
      exact chk_weak y3 (by omega)
    · rw [cov_append, cov_append, cov_cons, e1]
      constructor
      · rintro (h | h | h)
        · exact .inl (.inl h)
        · exact .inr h
        · exact .inl (.inr h)
      · rintro ((h | h) | h)
        · exact .inl h
        · exact .inr (.inr h)
        · exact .inr (.inl h)
    · rcases (cov_append a b x).1 hx with h | h
      · have := lowa x h; omega
      · have := lowb x h; omega
    · simp only [fsum_append, fsum_cons]; omega
    · simp only [List.length_append, List.length_cons]; omega
end Go.Proofs.Ytinjfmcmjhehoaa.gaps
