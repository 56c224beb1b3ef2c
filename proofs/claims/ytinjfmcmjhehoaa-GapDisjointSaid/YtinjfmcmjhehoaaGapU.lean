/-
  The law GapBack, walked, and its plain part: giving back what was just taken makes the list what it was. No condition but the list as it stands in memory.
-/
import Derived.Test.YtinjfmcmjhehoaaGapT
namespace Go.Proofs.Ytinjfmcmjhehoaa.gaps
open Go.ChangeShapes Go.WideShapes Go.ChangeAt Go.RowKit
open M G
set_option linter.unusedVariables false
/-! ### plain -/
theorem fgreat_lt (m : Int) (hm : 0 < m) : ∀ (l : List Gap) (a : Int), a < m → (∀ g ∈ l, g.2 < m) → l.foldl (fun a g => max a g.2) a < m
  | [], a, ha, _ => ha
  | g :: r, a, ha, h => by
    rw [List.foldl_cons]
    exact fgreat_lt m hm r _ (by have := h g (by simp); omega) (fun o ho => h o (by simp [ho]))
theorem up_pos {s : Int} (h : sizeOk s = true) : 16 ≤ up s ∧ up s ≤ 16777216 ∧ up s % 16 = 0 ∧ s ≤ up s ∧ 1 ≤ s ∧ s ≤ 16777216 := by
  unfold sizeOk at h
  obtain ⟨h1, h2⟩ := of_decide_eq_true h
  obtain ⟨a, b, c, d⟩ := up_bd s h1 h2
  exact ⟨a, b, c, d, h1, h2⟩
theorem take_none_plain {t s : Int} {l : List Gap} (h : (takeA t l s).2.2 = 4) : sizeOk s = true ∧ (freeR t l).2.2 = 0 ∧ (freeR t l).2.1 < up s := by
  unfold takeA at h
  by_cases hc : checkE t l = 0
  · rw [if_neg (by simpa using hc)] at h
    by_cases hs : sizeOk s = true
    · rw [if_pos hs] at h
      obtain ⟨u1, -⟩ := up_pos hs
      by_cases hf : first l (up s) < l.length
      · rw [if_pos hf] at h
        simp at h
      · refine ⟨hs, by simp [freeR, hc], ?_⟩
        simp only [freeR, hc, ne_eq, not_true, if_false]
        refine fgreat_lt _ (by omega) l 0 (by omega) fun g hg => ?_
        have := List.findIdx_eq_length (p := fun o : Gap => decide (up s ≤ o.2)) (xs := l)
        have hff : List.findIdx (fun o : Gap => decide (up s ≤ o.2)) l = l.length := by
          have h1 := first_le l (up s)
          unfold first at h1 hf
          omega
        have := this.1 hff g hg
        simpa using this
    · rw [if_neg hs] at h
      simp at h
  · rw [if_pos (by simpa using hc)] at h
    simp only at h
    unfold checkE at h
    split at h
    · split at h
      · omega
      · split at h <;> omega
    · omega
theorem take_bad_plain {t s : Int} {l : List Gap} (h : (takeA t l s).2.2 ≠ 0) : (takeA t l s).1 = [] ∧ (takeA t l s).2.1 = 0 := by
  unfold takeA at h ⊢
  by_cases hc : checkE t l = 0
  · rw [if_neg (by simpa using hc)] at h ⊢
    by_cases hs : sizeOk s = true
    · rw [if_pos hs] at h ⊢
      by_cases hf : first l (up s) < l.length
      · rw [if_pos hf] at h
        simp at h
      · rw [if_neg hf]
        exact ⟨rfl, rfl⟩
    · rw [if_neg hs]
      exact ⟨rfl, rfl⟩
  · rw [if_pos (by simpa using hc)]
    exact ⟨rfl, rfl⟩
theorem fsum_range {t : Int} {l : List Gap} {e : Int} (ht : okTotal t = true) (h : chk t e l = true) (hl : l.length ≤ 4096) : 0 ≤ fsum l ∧ fsum l ≤ 68719476736 := by
  have tb := okTotal_bd ht
  have := fsum_bd (l := l) (fun g hg => by have := grain_bd (chk_bounds h g hg); omega) l.length (Nat.le_refl _)
  rw [List.take_length] at this
  omega
theorem take_ok_plain {t s : Int} {l : List Gap} (h : (takeA t l s).2.2 = 0) : sizeOk s = true ∧ (freeR t l).2.2 = 0 ∧ (freeR t (takeA t l s).1).2.2 = 0 ∧
    (freeR t l).1 - (freeR t (takeA t l s).1).1 = up s ∧ 0 ≤ (freeR t l).1 ∧ (freeR t l).1 ≤ 68719476736 ∧ 0 ≤ (freeR t (takeA t l s).1).1 ∧ (freeR t (takeA t l s).1).1 ≤ 68719476736 ∧
    giveA t (takeA t l s).1 ((takeA t l s).2.1, s) = (l, 0) := by
  have hA := h
  unfold takeA at hA
  by_cases hc : checkE t l = 0
  · rw [if_neg (by simpa using hc)] at hA
    by_cases hs : sizeOk s = true
    · rw [if_pos hs] at hA
      by_cases hf : first l (up s) < l.length
      · have e1 : takeA t l s = (takeL l (up s) (first l (up s)), (l.getD (first l (up s)) (0, 0)).1, 0) := by
          unfold takeA
          rw [if_neg (by simpa using hc), if_pos hs, if_pos hf]
        rw [e1]
        obtain ⟨ht, hl, hchk⟩ := checkE_zero hc
        obtain ⟨u1, u2, u3, u4, u5, u6⟩ := up_pos hs
        obtain ⟨y, hy, hmy⟩ := first_there hf
        obtain ⟨k1, k2, k3, k4, k5⟩ := takeL_ok (by omega) u3 hchk hf y hy hmy
        have by1 := grain_bd (chk_bounds hchk y (List.mem_of_getElem? hy))
        have tb := okTotal_bd ht
        simp only [show l.getD (first l (up s)) (0, 0) = y from by simp [List.getD, hy]]
        have hgiv : ∀ q, giveL (takeL l (up s) (first l (up s))) q = giveL (takeL l (up s) (first l (up s))) q := fun _ => rfl
        generalize takeL l (up s) (first l (up s)) = L at *
        have hcL : checkE t L = 0 := by
          unfold checkE
          rw [if_pos ht, if_neg (by omega), if_pos k1]
        have r1 := fsum_range ht hchk hl
        have r2 := fsum_range ht k1 (by omega)
        have hgr : grainB t (y.1, up s) = true := decide_eq_true ⟨by simp only; omega, by simp only; omega, by simp only; omega, by simp only; omega, by simp only; omega, by simp only; omega⟩
        have hap : apart L (y.1, up s) := (apart_cov k1 (by simp only; omega)).2 k3
        refine ⟨hs, by simp [freeR, hc], by simp [freeR, hcL], ?_, ?_, ?_, ?_, ?_, ?_⟩
        · simp only [freeR, hc, hcL, ne_eq, not_true, if_false]; omega
        · simp only [freeR, hc, ne_eq, not_true, if_false]; omega
        · simp only [freeR, hc, ne_eq, not_true, if_false]; omega
        · simp only [freeR, hcL, ne_eq, not_true, if_false]; omega
        · simp only [freeR, hcL, ne_eq, not_true, if_false]; omega
        · obtain ⟨g1, g2, -, -⟩ := giveL_ok k1 hgr (by simp only; omega) hap
          have hany : L.any (meets (y.1, up s)) = false := by
            rw [List.any_eq_false]
            intro o ho
            simp [hap o ho]
          unfold giveA
          rw [if_neg (by simpa using hcL), if_pos hs]
          simp only
          rw [if_pos (by simp [hgr, hany])]
          rw [chk_unique g1 hchk (fun x => by rw [g2]; exact (k2 x).symm)]
      · rw [if_neg hf] at hA
        simp at hA
    · rw [if_neg hs] at hA
      simp at hA
  · rw [if_pos (by simpa using hc)] at hA
    exact absurd hA hc
end Go.Proofs.Ytinjfmcmjhehoaa.gaps
