/-
  Plain laws of GapAll: what is played and then given back whole leaves one gap of all. No condition but a total that New takes and sizes that Play takes.
-/
import Derived.Test.YtinjfmcmjhehoaaGapU
namespace Go.Proofs.Ytinjfmcmjhehoaa.gaps
open Go.ChangeShapes Go.WideShapes Go.ChangeAt Go.RowKit
open M G
set_option linter.unusedVariables false
def cnt (l : List Int) : Nat := (l.filter fun x => decide (0 < x)).length
theorem cnt_step {l : List Int} {k : Nat} {x : Int} (h : l[k]? = some x) : cnt (l.take (k + 1)) = cnt (l.take k) + if 0 < x then 1 else 0 := by
  unfold cnt
  rw [List.take_add_one, h, List.filter_append, List.length_append]
  by_cases hx : 0 < x <;> simp [hx]
theorem cnt_le (l : List Int) : cnt l ≤ l.length := List.length_filter_le _ _
def negs (n : Nat) : List Int := (List.range n).map fun (i : Nat) => -((i : Int) + 1)
theorem negs_zero : negs 0 = [] := rfl
theorem negs_succ (n : Nat) : negs (n + 1) = negs n ++ [-((n : Int) + 1)] := by simp [negs, List.range_succ]
theorem negs_length (n : Nat) : (negs n).length = n := by simp [negs]
theorem negs_mem {n : Nat} {x : Int} (h : x ∈ negs n) : -(n : Int) ≤ x ∧ x ≤ -1 := by
  unfold negs at h
  obtain ⟨i, hi, rfl⟩ := List.mem_map.1 h
  have := List.mem_range.1 hi
  omega
theorem tk_step_len (S : PS) (n : Int) : (pstep S n).tk.length = S.tk.length + if 0 < n then 1 else 0 := by
  unfold pstep
  split
  · split <;> simp
  · split <;> simp
theorem tk_plays : ∀ (ns : List Int) (S : PS), (ns.foldl pstep S).tk.length = S.tk.length + cnt ns
  | [], S => by simp [cnt]
  | n :: r, S => by
    rw [List.foldl_cons, tk_plays r, tk_step_len]
    unfold cnt
    rw [List.filter_cons]
    by_cases h : 0 < n
    · simp [h]; omega
    · simp [h]
theorem plays_tk_len (t : Int) (ns : List Int) : (plays t ns).tk.length = cnt ns := by
  unfold plays
  rw [tk_plays]
  simp
theorem inv_all {t : Int} (ht : okTotal t = true) (ns : List Int) (hb : ∀ n ∈ ns, n ≤ 16777216) : Inv t (plays t ns) ns.length := by
  have := inv_plays ht ns hb ns.length (Nat.le_refl _)
  rwa [List.take_length] at this
theorem plays_snoc (t : Int) (ns : List Int) (n : Int) : plays t (ns ++ [n]) = pstep (plays t ns) n := by
  unfold plays
  rw [List.foldl_append]
  rfl
theorem cnt_negs (ns : List Int) (i : Nat) : cnt (ns ++ negs i) = cnt ns := by
  unfold cnt
  rw [List.filter_append, List.length_append]
  have : (negs i).filter (fun x => decide (0 < x)) = [] := by
    rw [List.filter_eq_nil_iff]
    intro x hx
    have := negs_mem hx
    simp; omega
  rw [this]; simp
theorem mem_negs_bd {ns : List Int} (hb : ∀ n ∈ ns, n ≤ 16777216) (i : Nat) : ∀ n ∈ ns ++ negs i, n ≤ 16777216 := by
  intro n hn
  rcases List.mem_append.1 hn with h | h
  · exact hb n h
  · have := negs_mem h; omega
theorem back_all {t : Int} (ht : okTotal t = true) (ns : List Int) (hb : ∀ n ∈ ns, n ≤ 16777216) : ∀ i, i ≤ cnt ns → ∀ j, j < i → ((plays t (ns ++ negs i)).tk.getD j (0, 0)).2 = 0
  | 0, _, j, hj => by omega
  | i + 1, hi, j, hj => by
    have ih := back_all ht ns hb i (by omega)
    have hinv := inv_all ht (ns ++ negs i) (mem_negs_bd hb i)
    have hlen := plays_tk_len t (ns ++ negs i)
    rw [cnt_negs] at hlen
    rw [negs_succ, ← List.append_assoc, plays_snoc]
    generalize plays t (ns ++ negs i) = S at *
    have hil : i < S.tk.length := by omega
    have hheld := (hinv.held _ (List.getElem_mem hil)).1
    have eg : S.tk.getD i (0, 0) = S.tk[i] := by simp [List.getD, List.getElem?_eq_getElem hil]
    have ei : (-(-((i : Int) + 1)) - 1).toNat = i := by omega
    unfold pstep
    rw [if_neg (by omega)]
    by_cases hg : -((i : Int) + 1) < 0 ∧ - -((i : Int) + 1) ≤ S.tk.length ∧ 0 < (S.tk.getD (-(-((i : Int) + 1)) - 1).toNat (0, 0)).2
    · rw [if_pos hg]
      simp only
      rw [ei]
      by_cases hji : j = i
      · subst hji
        simp [List.getD, hil]
      · have : (S.tk.set i ((S.tk.getD i (0, 0)).1, 0)).getD j (0, 0) = S.tk.getD j (0, 0) := by
          simp only [List.getD]
          rw [List.getElem?_set_ne (by omega)]
        rw [this]
        exact ih j (by omega)
    · rw [if_neg hg]
      simp only
      by_cases hji : j = i
      · subst hji
        rw [ei, eg] at hg
        rw [eg]
        omega
      · exact ih j (by omega)
theorem cov_zero {l : List Gap} (h : ∀ g ∈ l, g.2 ≤ 0) (x : Int) : ¬ cov l x := by
  rintro ⟨g, hg, h1, h2⟩
  have := h g hg
  omega
theorem cov_new {t : Int} (ht : okTotal t = true) (x : Int) : cov (newL t) x ↔ 0 ≤ x ∧ x < t := by
  have tb := okTotal_bd ht
  unfold newL
  by_cases h : t = 0
  · subst h
    rw [if_neg (by simp)]
    exact ⟨fun h => absurd h (cov_nil _), fun h => by omega⟩
  · rw [if_pos (by simp [ht, h]), cov_cons]
    simp only [cov_nil, or_false]
    omega
theorem all_back {t : Int} (ht : okTotal t = true) (ns : List Int) (hb : ∀ n ∈ ns, n ≤ 16777216) : (plays t (ns ++ negs (cnt ns))).l = newL t := by
  have hz := back_all ht ns hb (cnt ns) (Nat.le_refl _)
  have hinv := inv_all ht (ns ++ negs (cnt ns)) (mem_negs_bd hb _)
  have hlen := plays_tk_len t (ns ++ negs (cnt ns))
  rw [cnt_negs] at hlen
  generalize plays t (ns ++ negs (cnt ns)) = S at *
  have hzero : ∀ g ∈ S.tk, g.2 ≤ 0 := by
    intro g hg
    obtain ⟨j, hj, rfl⟩ := List.getElem_of_mem hg
    have := hz j (by omega)
    simp only [List.getD, List.getElem?_eq_getElem hj, Option.getD_some] at this
    omega
  have hnew := (inv_new ht).chk
  exact chk_unique hinv.chk hnew fun x => by
    rw [cov_new ht]
    constructor
    · exact cov_bound hinv.chk
    · intro h
      rcases hinv.all x h.1 h.2 with h1 | h1
      · exact h1
      · exact absurd h1 (cov_zero hzero x)
theorem play_all {t : Int} (ns : List Int) (hl : ns.length ≤ 200) : ((playR t (ns ++ negs (cnt ns))).2.2 = if okTotal t && !ns.any badSize then 0 else 1) ∧
    (okTotal t = true → ns.any badSize = false → (playR t (ns ++ negs (cnt ns))).2.1 = newL t) := by
  have hc := cnt_le ns
  have hlen : (ns ++ negs (cnt ns)).length ≤ 400 := by rw [List.length_append, negs_length]; omega
  have hbad : (ns ++ negs (cnt ns)).any badSize = ns.any badSize := by
    rw [List.any_append]
    have : (negs (cnt ns)).any badSize = false := by
      rw [List.any_eq_false]
      intro x hx
      have := negs_mem hx
      simp [badSize]; omega
    rw [this, Bool.or_false]
  unfold playR
  by_cases ht : okTotal t = true
  · rw [if_neg (by simp [newE_ok ht]), if_neg (by omega), hbad]
    by_cases hb : ns.any badSize = true
    · rw [if_pos hb]
      simp [hb]
    · have hb' : ns.any badSize = false := by simpa using hb
      rw [if_neg hb]
      refine ⟨by simp [ht, hb'], fun _ _ => all_back ht ns fun n hn => ?_⟩
      have := List.any_eq_false.1 hb' n hn
      simp [badSize] at this
      omega
  · have ht' : okTotal t = false := by simpa using ht
    rw [if_pos (by simp [newE_bad ht'])]
    exact ⟨by simp [ht', newE_bad ht'], fun h => absurd h ht⟩
/-! ### lists of numbers that came in -/
theorem open_intl {H : Type} {enc : TypeId × Value → H} {W : World} {base fuel : Nat} {v : Value} {x : DataW H × List MemPlace} (h : DataW.trod enc Try.prog W base (fun _ => true) true fuel 49 v.cells.toList = some x) (hs : ∃ A n c, v = .slice A n c) :
    ∃ (A : Option Addr) (n c : Nat) (l : List Int), v = .slice A n c ∧ l.length = n ∧ n ≤ c ∧ c ≤ maxLen ∧ Rd W W.heap.size A (ints l) ∧ (x.1 = .nil ∧ n = 0 ∨ ∃ es sp, x.1 = .slice es sp ∧ es.length + sp.length = c) := by
  obtain ⟨A, n, c, rfl⟩ := hs
  rcases open_ints Try.underlying49 Try.underlying3 cells3 h with ⟨hcs, rfl⟩ | ⟨a, len, cap, zs, hcs, hb, hl, hm, hz, rfl, hcell, -⟩
  · simp [Value.cells] at hcs
    obtain ⟨rfl, rfl, rfl⟩ := hcs
    exact ⟨none, 0, 0, [], rfl, rfl, Nat.le_refl _, by simp [maxLen], Rd.nil, .inl ⟨rfl, rfl⟩⟩
  · simp [Value.cells] at hcs
    obtain ⟨rfl, rfl, rfl⟩ := hcs
    simp only [if_true] at hz
    refine ⟨some a, n, c, zs.take n, rfl, by rw [List.length_take]; omega, hl, hm, ?_, .inr ⟨_, _, rfl, by simp [lits]; omega⟩⟩
    intro hne
    have hn0 : 0 < n := by
      rcases Nat.eq_zero_or_pos n with h | h
      · subst h; simp [ints] at hne
      · exact h
    have each : ∀ j u, (ints (zs.take n))[j]? = some u → W.cell? (a.add j) = some u := by
      intro j u hu
      have hj : j < n := by
        rcases Nat.lt_or_ge j n with h | h
        · exact h
        · rw [List.getElem?_eq_none (by rw [ints_length, List.length_take]; omega)] at hu; cases hu
      have hjz : j < zs.length := by omega
      rw [hcell j hjz]
      simp only [ints, List.getElem?_map, List.getElem?_take, if_pos hj, List.getElem?_eq_getElem hjz, Option.map_some] at hu
      rw [← hu]
      simp [List.getD, hjz]
    refine ⟨a, rfl, ?_, each⟩
    have hz0 : 0 < zs.length := by omega
    have := World.block_lt_of_cell? W _ (hcell 0 hz0)
    rwa [M.block_add] at this
end Go.Proofs.Ytinjfmcmjhehoaa.gaps
