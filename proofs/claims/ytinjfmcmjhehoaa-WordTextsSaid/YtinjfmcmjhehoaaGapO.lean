/-
  Plain laws of playing: what any sizes taken and given back one behind the other come to, step by step, and what holds at each step. No condition but a total that New takes and sizes that Play takes.
-/
import Derived.Test.YtinjfmcmjhehoaaGapN
namespace Go.Proofs.Ytinjfmcmjhehoaa.gaps
open Go.ChangeShapes Go.WideShapes Go.ChangeAt Go.RowKit
open M G
set_option linter.unusedVariables false
/-! ### playing -/
structure PS where
  l : List Gap
  tk : List Gap
  out : List Int
def pstep (S : PS) (n : Int) : PS :=
  if 0 < n then
    if first S.l (up n) < S.l.length then ⟨takeL S.l (up n) (first S.l (up n)), S.tk ++ [((S.l.getD (first S.l (up n)) (0, 0)).1, up n)], S.out ++ [(S.l.getD (first S.l (up n)) (0, 0)).1]⟩
    else ⟨S.l, S.tk ++ [(-1, 0)], S.out ++ [-1]⟩
  else if n < 0 ∧ -n ≤ S.tk.length ∧ 0 < (S.tk.getD (-n - 1).toNat (0, 0)).2 then
    ⟨giveL S.l (S.tk.getD (-n - 1).toNat (0, 0)), S.tk.set (-n - 1).toNat ((S.tk.getD (-n - 1).toNat (0, 0)).1, 0), S.out ++ [(S.tk.getD (-n - 1).toNat (0, 0)).1]⟩
  else ⟨S.l, S.tk, S.out ++ [-1]⟩
def plays (t : Int) (ns : List Int) : PS := ns.foldl pstep ⟨newL t, [], []⟩
/-- ranges that do not meet, but those of size nought -/
def free2 (g o : Gap) : Prop := 0 < g.2 → 0 < o.2 → meets g o = false
structure Inv (t : Int) (S : PS) (k : Nat) : Prop where
  chk : chk t (-1) S.l = true
  ll : S.l.length ≤ k + 1
  tl : S.tk.length ≤ k
  ol : S.out.length = k
  held : ∀ g ∈ S.tk, 0 ≤ g.2 ∧ (0 < g.2 → grainB t g = true ∧ apart S.l g)
  pair : S.tk.Pairwise free2
  all : ∀ x, 0 ≤ x → x < t → cov S.l x ∨ cov S.tk x
  sum : fsum S.l + fsum S.tk = t
theorem meets_cov {g o : Gap} (hg : 0 < g.2) (ho : 0 < o.2) : meets g o = false ↔ ∀ x, ¬ ((g.1 ≤ x ∧ x < g.1 + g.2) ∧ (o.1 ≤ x ∧ x < o.1 + o.2)) := by
  unfold meets
  rw [decide_eq_false_iff_not]
  constructor
  · intro h x hx
    omega
  · intro h h2
    rcases Int.lt_or_le g.1 o.1 with h3 | h3
    · exact h o.1 (by omega)
    · exact h g.1 (by omega)
theorem meets_symm {g o : Gap} : meets g o = meets o g := by
  unfold meets
  congr 1
  exact propext ⟨fun h => ⟨h.2, h.1⟩, fun h => ⟨h.2, h.1⟩⟩
theorem apart_cov {t e : Int} {l : List Gap} {g : Gap} (hl : chk t e l = true) (hg : 0 < g.2) : apart l g ↔ ∀ x, cov l x → ¬ (g.1 ≤ x ∧ x < g.1 + g.2) := by
  have pos := chk_bounds hl
  constructor
  · rintro h x ⟨o, ho, h1⟩ h2
    have bo := grain_bd (pos o ho)
    exact (meets_cov hg (by omega)).1 (h o ho) x ⟨h2, h1⟩
  · intro h o ho
    have bo := grain_bd (pos o ho)
    exact (meets_cov hg (by omega)).2 fun x hx => h x ⟨o, ho, hx.2⟩ hx.1
theorem inv_new {t : Int} (ht : okTotal t = true) : Inv t ⟨newL t, [], []⟩ 0 := by
  obtain ⟨t0, t1, t2⟩ := okTotal_bd ht
  unfold newL
  by_cases h : t = 0
  · subst h
    exact ⟨rfl, by simp, by simp, rfl, by simp, .nil, fun x h1 h2 => by omega, rfl⟩
  · have hb : (okTotal t && decide (t ≠ 0)) = true := by simp [ht, h]
    rw [if_pos hb]
    refine ⟨chk_mk (decide_eq_true ⟨by simp only; omega, by simp only; omega, by simp only; omega, by simp only; omega, by simp only; omega, by simp only; omega⟩) (by simp only; omega) rfl, by simp, by simp, rfl, by simp, .nil, fun x h1 h2 => .inl ?_, by simp only [fsum_cons, fsum_nil]; omega⟩
    rw [cov_cons]
    exact .inl (by simp only; omega)
theorem first_there {l : List Gap} {m : Int} (h : first l m < l.length) : ∃ y, l[first l m]? = some y ∧ m ≤ y.2 := by
  refine ⟨_, List.getElem?_eq_getElem h, ?_⟩
  have h2 := List.findIdx_getElem (p := fun o : Gap => decide (m ≤ o.2)) (w := h)
  exact of_decide_eq_true h2
theorem inv_step {t : Int} {S : PS} {k : Nat} {n : Int} (ht : okTotal t = true) (h : Inv t S k) (n2 : n ≤ 16777216) : Inv t (pstep S n) (k + 1) := by
  obtain ⟨hchk, hll, htl, hol, hheld, hpair, hall, hsum⟩ := h
  obtain ⟨t0, t1, t2⟩ := okTotal_bd ht
  unfold pstep
  by_cases hn : 0 < n
  · rw [if_pos hn]
    obtain ⟨u1, u2, u3, u4⟩ := up_bd n (by omega) n2
    generalize up n = m at *
    by_cases hf : first S.l m < S.l.length
    · rw [if_pos hf]
      obtain ⟨y, hy, hmy⟩ := first_there hf
      have by1 := grain_bd (chk_bounds hchk y (List.mem_of_getElem? hy))
      rw [show S.l.getD (first S.l m) (0, 0) = y from by simp [List.getD, hy]]
      obtain ⟨k1, k2, k3, k4, k5⟩ := takeL_ok (by omega) u3 hchk hf y hy hmy
      generalize takeL S.l m (first S.l m) = L at *
      have hz : ∀ x, y.1 ≤ x ∧ x < y.1 + m → cov S.l x := fun x hx => (k2 x).2 (.inr hx)
      refine ⟨k1, by simp only; omega, by simp only [List.length_append, List.length_cons, List.length_nil]; omega, by simp only [List.length_append, List.length_cons, List.length_nil]; omega, ?_, ?_, ?_, ?_⟩
      · intro g hg
        rcases List.mem_append.1 hg with h1 | h1
        · obtain ⟨g0, g1⟩ := hheld g h1
          refine ⟨g0, fun hp => ⟨(g1 hp).1, (apart_cov k1 hp).2 fun x hx hx2 => ?_⟩⟩
          exact (apart_cov hchk hp).1 (g1 hp).2 x ((k2 x).2 (.inl hx)) hx2
        · have : g = (y.1, m) := by simpa using h1
          subst this
          refine ⟨by simp only; omega, fun hp => ⟨decide_eq_true ⟨by simp only; omega, by simp only; omega, by simp only; omega, by simp only; omega, by simp only; omega, by simp only; omega⟩, (apart_cov k1 hp).2 k3⟩⟩
      · rw [List.pairwise_append]
        refine ⟨hpair, by simp, fun a ha b hb => ?_⟩
        have : b = (y.1, m) := by simpa using hb
        subst this
        intro ha0 hb0
        refine (meets_cov ha0 hb0).2 fun x hx => ?_
        exact (apart_cov hchk ha0).1 ((hheld a ha).2 ha0).2 x (hz x hx.2) hx.1
      · intro x h1 h2
        rw [cov_append, cov_cons]
        rcases hall x h1 h2 with h3 | h3
        · rcases (k2 x).1 h3 with h4 | h4
          · exact .inl h4
          · exact .inr (.inr (.inl h4))
        · exact .inr (.inl h3)
      · simp only [fsum_append, fsum_cons, fsum_nil]; omega
    · rw [if_neg hf]
      refine ⟨hchk, by simp only; omega, by simp only [List.length_append, List.length_cons, List.length_nil]; omega, by simp only [List.length_append, List.length_cons, List.length_nil]; omega, ?_, ?_, ?_, ?_⟩
      · intro g hg
        rcases List.mem_append.1 hg with h1 | h1
        · exact hheld g h1
        · have : g = (-1, 0) := by simpa using h1
          subst this
          exact ⟨by simp, fun hp => by simp at hp⟩
      · rw [List.pairwise_append]
        refine ⟨hpair, by simp, fun a ha b hb => ?_⟩
        have : b = (-1, 0) := by simpa using hb
        subst this
        intro _ hb0
        simp at hb0
      · intro x h1 h2
        rw [cov_append]
        rcases hall x h1 h2 with h3 | h3
        · exact .inl h3
        · exact .inr (.inl h3)
      · simp only [fsum_append, fsum_cons, fsum_nil]; omega
  · rw [if_neg hn]
    by_cases hg : n < 0 ∧ -n ≤ S.tk.length ∧ 0 < (S.tk.getD (-n - 1).toNat (0, 0)).2
    · rw [if_pos hg]
      obtain ⟨g1, g2, g3⟩ := hg
      generalize hj : (-n - 1).toNat = j at *
      have hjl : j < S.tk.length := by omega
      have e1 : S.tk.getD j (0, 0) = S.tk[j] := by simp [List.getD, List.getElem?_eq_getElem hjl]
      rw [e1] at g3 ⊢
      have hs : S.tk = S.tk.take j ++ S.tk[j] :: S.tk.drop (j + 1) := by rw [← drop_cons S.tk j hjl, List.take_append_drop]
      have hset : ∀ z, S.tk.set j z = S.tk.take j ++ z :: S.tk.drop (j + 1) := fun z => List.set_eq_take_append_cons_drop.trans (by rw [if_pos hjl])
      rw [hset]
      obtain ⟨_, gg⟩ := hheld _ (List.getElem_mem hjl)
      obtain ⟨gr, ga⟩ := gg g3
      have bg := grain_bd gr
      have hlen : S.tk.length = (S.tk.take j).length + 1 + (S.tk.drop (j + 1)).length := by
        have := congrArg List.length hs
        simp only [List.length_append, List.length_cons] at this
        omega
      generalize S.tk[j] = g at *
      generalize S.tk.take j = a at *
      generalize S.tk.drop (j + 1) = b at *
      rw [hs] at hheld hpair hsum hall
      rw [List.pairwise_append, List.pairwise_cons] at hpair
      obtain ⟨p1, ⟨p2, p3⟩, p4⟩ := hpair
      obtain ⟨k1, k2, k3, k4⟩ := giveL_ok hchk gr (by omega) ga
      have other : ∀ o, o ∈ a ∨ o ∈ b → 0 ≤ o.2 ∧ (0 < o.2 → grainB t o = true ∧ apart (giveL S.l g) o) := by
        intro o ho
        obtain ⟨o0, o1⟩ := hheld o (by rcases ho with h | h <;> simp [h])
        refine ⟨o0, fun hp => ⟨(o1 hp).1, (apart_cov k1 hp).2 fun x hx hx2 => ?_⟩⟩
        rcases (k2 x).1 hx with h1 | h1
        · exact (apart_cov hchk hp).1 (o1 hp).2 x h1 hx2
        · have : meets o g = false := by
            rcases ho with h | h
            · exact p4 o h g (by simp) hp g3
            · rw [meets_symm]; exact p2 o h g3 hp
          exact (meets_cov hp g3).1 this x ⟨hx2, h1⟩
      refine ⟨k1, by simp only; omega, by simp only [List.length_append, List.length_cons]; omega, by simp only [List.length_append, List.length_cons, List.length_nil]; omega, ?_, ?_, ?_, ?_⟩
      · intro o ho
        rcases List.mem_append.1 ho with h1 | h1
        · exact other o (.inl h1)
        · rcases List.mem_cons.1 h1 with h2 | h2
          · subst h2
            exact ⟨by simp, fun hp => by simp at hp⟩
          · exact other o (.inr h2)
      · rw [List.pairwise_append, List.pairwise_cons]
        refine ⟨p1, ⟨fun o _ h0 => by simp at h0, p3⟩, fun x hx y hy => ?_⟩
        rcases List.mem_cons.1 hy with h2 | h2
        · subst h2
          intro _ h0
          simp at h0
        · exact p4 x hx y (by simp [h2])
      · intro x h1 h2
        rw [cov_append, cov_cons, k2]
        have := hall x h1 h2
        rw [cov_append, cov_cons] at this
        rcases this with h3 | h3 | h3 | h3
        · exact .inl (.inl h3)
        · exact .inr (.inl h3)
        · exact .inl (.inr h3)
        · exact .inr (.inr (.inr h3))
      · simp only [fsum_append, fsum_cons] at hsum ⊢; omega
    · rw [if_neg hg]
      exact ⟨hchk, by simp only; omega, by simp only; omega, by simp only [List.length_append, List.length_cons, List.length_nil]; omega, hheld, hpair, hall, hsum⟩
theorem inv_plays {t : Int} (ht : okTotal t = true) (ns : List Int) (hb : ∀ n ∈ ns, n ≤ 16777216) : ∀ k, k ≤ ns.length → Inv t (plays t (ns.take k)) k
  | 0, _ => inv_new ht
  | k + 1, hk => by
    have hkl : k < ns.length := by omega
    rw [List.take_add_one, List.getElem?_eq_getElem hkl, plays, List.foldl_append]
    exact inv_step ht (inv_plays ht ns hb k (by omega)) (hb _ (List.getElem_mem hkl))
end Go.Proofs.Ytinjfmcmjhehoaa.gaps
