/-
  The walk of the law AllocExists, and Used where no machine register is had. Condition: the function stands.
-/
import Derived.Test.YthgbmhpfblgjcaaGreatDoorAlK
import Derived.Test.YthgbmhpfblgjcaaGreatDoorTwE
set_option linter.unusedVariables false
set_option linter.unusedSimpArgs false
namespace Go.Proofs.YthgbmhpfblgjcaaGreatDoor.fl
open Go.RowKit Go.Shelf
open M T ty
set_option linter.unusedVariables false
section
variable {f : Fn} {rc : List Bool} {s : Ins} {r : Nat} {st : Int}
/-! what needs a place -/
theorem mem_needs {bl : List Bl} {n : Nat} {q : Int} : q ∈ needs bl rc s n ↔ ∃ i, i < n ∧ q ∈ needAt bl rc s i := by
  unfold needs
  rw [List.mem_flatMap]
  exact ⟨fun ⟨i, hi, h⟩ => ⟨i, List.mem_range.1 hi, h⟩, fun ⟨i, hi, h⟩ => ⟨i, List.mem_range.2 hi, h⟩⟩
theorem needAt_some {bl : List Bl} {i : Nat} {q : Int} (h : q ∈ needAt bl rc s i) : ∃ x, bl[i]? = some x ∧ rc[i]? = some true ∧ q ∈ needB bl s i x (once (exitTo x.ex)) := by
  unfold needAt at h
  split at h
  · rename_i x l hx hl
    split at h
    · rename_i hr
      rw [tos_get hx] at hl
      obtain rfl := Option.some.inj hl
      exact ⟨x, hx, hr, h⟩
    · cases h
  · cases h
theorem needAt_of {bl : List Bl} {i : Nat} {q : Int} {x : Bl} (hx : bl[i]? = some x) (hr : rc[i]? = some true) (h : q ∈ needB bl s i x (once (exitTo x.ex))) : q ∈ needs bl rc s bl.length := by
  refine mem_needs.2 ⟨i, (List.getElem?_eq_some_iff.1 hx).1, ?_⟩
  unfold needAt
  rw [hx, tos_get hx]
  simp only
  rw [if_pos hr]
  exact h
theorem mem_needB {bl : List Bl} {i : Nat} {x : Bl} {l : List Int} {q : Int} : q ∈ needB bl s i x l ↔ q ∈ list (inAt s i) ∨ q ∈ list (ends l x.ex s) ∨ (∃ o ∈ x.ops, q = o.d ∨ q ∈ readsOp o) ∨ q ∈ exitRegs x.ex ∨ (x.ex.k = 4 ∧ q = x.ex.d) := by
  unfold needB
  rw [List.mem_append, List.mem_append, List.mem_append, List.mem_append, List.mem_flatMap]
  simp only [List.mem_cons]
  have : (q ∈ if x.ex.k = 4 then [x.ex.d] else []) ↔ (x.ex.k = 4 ∧ q = x.ex.d) := by split <;> simp [*]
  rw [this]
  simp only [or_assoc]
theorem needs_lt (hg : Good st f) (hreg : f.regs = (r : Int)) (hs : InsOk r s) (n : Nat) : ∀ q ∈ needs f.bl rc s n, q < (r : Int) := fun q hq => by
  obtain ⟨i, hi, h⟩ := mem_needs.1 hq
  obtain ⟨x, hx, hr, h⟩ := needAt_some h
  have hxm := List.mem_of_getElem? hx
  rcases mem_needB.1 h with h | h | ⟨o, ho, h⟩ | h | ⟨h4, rfl⟩
  · exact (list_bd (inAt_lt hs _) h).2
  · exact (list_bd (ends_lt hs _ _) h).2
  · have hop := op_in (hg.op x hxm o ho) hg.r0
    rw [← hreg]
    rcases h with rfl | h
    · exact hop.d
    · exact (hop.reads q h).2
  · rw [← hreg]
    exact (exit_regs (hg.ex x hxm) q h).2
  · rw [← hreg]
    exact exit_d (hg.ex x hxm) hg.r0
/-! what is live needs a place -/
def Nd (f : Fn) (rc : List Bool) (s : Ins) (j : Nat) : Prop := (j : Int) ∈ needs f.bl rc s f.bl.length
theorem list_nat {m r : Nat} (hm : m < 2 ^ r) {q : Int} (h : q ∈ list m) : ∃ j : Nat, q = j ∧ j < r ∧ m.testBit j = true := by
  obtain ⟨h0, h1⟩ := list_bd hm h
  obtain ⟨j, rfl⟩ := Int.eq_ofNat_of_zero_le h0
  exact ⟨j, rfl, by omega, (mem_list_nat.1 h).2⟩
theorem bit_lt4 {m r j : Nat} (hr : r ≤ 4096) (hm : m < 2 ^ r) (h : m.testBit j = true) : j < 4096 := by
  rcases Nat.lt_or_ge j 4096 with h1 | h1
  · exact h1
  · have : m < 2 ^ j := Nat.lt_of_lt_of_le hm (Nat.pow_le_pow_right (by decide) (by omega))
    rw [Nat.testBit_lt_two_pow this] at h
    cases h
theorem nd_in (hr4 : r ≤ 4096) (hs : InsOk r s) {i : Nat} {x : Bl} (hx : f.bl[i]? = some x) (hr : rc[i]? = some true) : Within (Nd f rc s) (inAt s i) := fun j hj =>
  needAt_of hx hr (mem_needB.2 (.inl (mem_list_nat.2 ⟨bit_lt4 hr4 (inAt_lt hs _) hj, hj⟩)))
theorem nd_ends (hr4 : r ≤ 4096) (hs : InsOk r s) {i : Nat} {x : Bl} (hx : f.bl[i]? = some x) (hr : rc[i]? = some true) : Within (Nd f rc s) (ends (once (exitTo x.ex)) x.ex s) := fun j hj =>
  needAt_of hx hr (mem_needB.2 (.inr (.inl (mem_list_nat.2 ⟨bit_lt4 hr4 (ends_lt hs _ _) hj, hj⟩))))
theorem reached_to (hg : Good st f) (hfo : Found (tos f.bl) (-1) 0 rc) {i : Nat} {x : Bl} (hx : f.bl[i]? = some x) (hr : rc[i]? = some true) {c : Int} (hc : c ∈ exitTo x.ex) : ∃ (k : Nat) (y : Bl), c = k ∧ f.bl[k]? = some y ∧ rc[k]? = some true := by
  have hil := (List.getElem?_eq_some_iff.1 hx).1
  obtain ⟨h0, h1⟩ := hg.to x (List.mem_of_getElem? hx) c hc
  obtain ⟨k, rfl⟩ := Int.eq_ofNat_of_zero_le h0
  have hk : k < f.bl.length := by omega
  refine ⟨k, f.bl[k], rfl, List.getElem?_eq_getElem hk, (hfo.2 k (by rw [tos_len]; exact hk)).2 ?_⟩
  have hw := (hfo.2 i (by rw [tos_len]; exact hil)).1 hr
  exact hw.step (by omega) (by rw [Int.toNat_natCast]; exact tos_get hx) (mem_once.2 hc) (by omega)
theorem set_tos {x : Ex} (h : x.k = 4) : x.to ∈ exitTo x ∧ x.els ∈ exitTo x := by
  unfold exitTo
  simp [h]
theorem nd_to (hg : Good st f) (hr4 : r ≤ 4096) (hs : InsOk r s) (hfo : Found (tos f.bl) (-1) 0 rc) {i : Nat} {x : Bl} (hx : f.bl[i]? = some x) (hr : rc[i]? = some true) {c : Int} (hc : c ∈ exitTo x.ex) : Within (Nd f rc s) (inAt s c) := by
  obtain ⟨k, y, rfl, hy, hk⟩ := reached_to hg hfo hx hr hc
  exact nd_in hr4 hs hy hk
theorem nd_second (hg : Good st f) (hr4 : r ≤ 4096) (hs : InsOk r s) (hfo : Found (tos f.bl) (-1) 0 rc) : Within (Nd f rc s) (second f.bl rc s) := by
  have key : ∀ (l : List Bl) (i acc : Nat), (∀ k x, l[k]? = some x → rc[i + k]? = some true → x.ex.k = 4 → Within (Nd f rc s) (inAt s x.ex.els)) → Within (Nd f rc s) acc → Within (Nd f rc s) (secondFrom rc s i l acc) := by
    intro l
    induction l with
    | nil => intro i acc _ h; exact h
    | cons x l ih =>
      intro i acc hl h
      refine ih (i + 1) _ (fun k y hk hrk h4 => hl (k + 1) y (by simpa using hk) (by rw [← hrk]; congr 1; omega) h4) ?_
      split
      · rename_i h9
        exact h.join ((hl 0 x rfl h9.1 h9.2).drop _)
      · exact h
  exact key f.bl 0 0 (fun k x hk hrk h4 => nd_to hg hr4 hs hfo hk (by rw [← hrk]; congr 1; omega) (set_tos h4).2) Within.zero
theorem evR_within {R : Nat → Prop} {sec : Nat} (hsec : Within R sec) : ∀ (ops : List Op) (m : Nat), Within R m → (∀ o ∈ ops, ∀ n ∈ readsOp o, R n.toNat) → ∀ e ∈ evR sec ops m, e.1 ∈ ops ∧ Within R e.2
  | [], m, _, _, e, he => by cases he
  | o :: l, m, hm, ho, e, he => by
    rcases List.mem_cons.1 he with rfl | he
    · refine ⟨List.mem_cons_self, ?_⟩
      show Within R (behind m o sec)
      unfold behind
      split
      · exact (hm.drop _).join hsec
      · exact hm.drop _
    · have h := evR_within hsec l _ (back_in hm o (ho o List.mem_cons_self) hsec) (fun o' h' => ho o' (List.mem_cons_of_mem _ h')) e he
      exact ⟨List.mem_cons_of_mem _ h.1, h.2⟩
/-- behind each operation of a reached block -/
theorem nd_evs (hg : Good st f) (hr4 : r ≤ 4096) (hs : InsOk r s) (hfo : Found (tos f.bl) (-1) 0 rc) (n : Nat) : ∀ e ∈ evs f.bl rc s n, Within (Nd f rc s) e.2 ∧ (0 ≤ e.1.d → Nd f rc s e.1.d.toNat) := fun e he => by
  unfold evs at he
  obtain ⟨i, -, hi⟩ := List.mem_flatMap.1 he
  unfold evAt at hi
  split at hi
  · rename_i x l hx hl
    split at hi
    · rename_i hr
      rw [tos_get hx] at hl
      obtain rfl := Option.some.inj hl
      have hxm := List.mem_of_getElem? hx
      have hrd : ∀ o ∈ x.ops, ∀ n ∈ readsOp o, Nd f rc s n.toNat := fun o ho n hn => by
        have hop := (op_in (hg.op x hxm o ho) hg.r0).reads n hn
        refine needAt_of hx hr (mem_needB.2 (.inr (.inr (.inl ⟨o, ho, .inr ?_⟩))))
        rw [Int.toNat_of_nonneg hop.1]
        exact hn
      have hsec := nd_second hg hr4 hs hfo
      have hpt : Within (Nd f rc s) (point (once (exitTo x.ex)) x s x.ops.length (second f.bl rc s)) := by
        unfold point
        refine backs_in hsec _ _ (Within.puts _ _ (nd_ends hr4 hs hx hr) (fun q hq => ?_)) (fun o ho => hrd o (List.mem_of_mem_drop ho))
        refine needAt_of hx hr (mem_needB.2 (.inr (.inr (.inr (.inl ?_)))))
        rw [Int.toNat_of_nonneg (exit_regs (hg.ex x hxm) q hq).1]
        exact hq
      have h := evR_within hsec _ _ hpt (fun o ho => hrd o (List.mem_reverse.1 ho)) e hi
      refine ⟨h.2, fun h0 => needAt_of hx hr (mem_needB.2 (.inr (.inr (.inl ⟨e.1, List.mem_reverse.1 h.1, .inl ?_⟩))))⟩
      rw [Int.toNat_of_nonneg h0]
    · cases hi
  · cases hi
theorem nd_across (hg : Good st f) (hr4 : r ≤ 4096) (hs : InsOk r s) (hfo : Found (tos f.bl) (-1) 0 rc) : Within (Nd f rc s) (across f.bl rc s) := by
  unfold across
  have key : ∀ (l : List (Op × Nat)) (m : Nat), Within (Nd f rc s) m → (∀ e ∈ l, Within (Nd f rc s) e.2) → Within (Nd f rc s) (l.foldl acrossEv m) := by
    intro l
    induction l with
    | nil => intro m hm _; exact hm
    | cons e l ih =>
      intro m hm hl
      rw [List.foldl_cons]
      refine ih _ ?_ (fun e' h' => hl e' (List.mem_cons_of_mem _ h'))
      unfold acrossEv
      split
      · exact hm.join (hl e List.mem_cons_self)
      · exact hm
  exact key _ 0 Within.zero fun e he => (nd_evs hg hr4 hs hfo _ e he).1
/-- both of a pair need a place -/
def ClR (R : Nat → Prop) (C : Cl) : Prop := ∀ k j, (C k).testBit j = true → R k ∧ R j
theorem ClR.both {R : Nat → Prop} {C : Cl} (h : ClR R C) {d x : Nat} (hd : R d) (hx : R x) : ClR R ((C.put d x).put x d) := fun k j hk => by
  rw [put_bit, put_bit] at hk
  simp only [Bool.or_eq_true, Bool.and_eq_true, decide_eq_true_eq] at hk
  rcases hk with (hk | ⟨rfl, rfl⟩) | ⟨rfl, rfl⟩
  · exact h k j hk
  · exact ⟨hd, hx⟩
  · exact ⟨hx, hd⟩
theorem ClR.wr {R : Nat → Prop} {C : Cl} (h : ClR R C) {d : Nat} (hd : R d) (but : Int) {m : Nat} (hm : Within R m) : ClR R (fl.wr d but m C) := by
  unfold fl.wr
  have key : ∀ (l : List Int) (C : Cl), ClR R C → (∀ q ∈ l, R q.toNat) → ClR R (l.foldl (fl.wr1 d but) C) := by
    intro l
    induction l with
    | nil => intro C hC _; exact hC
    | cons x l ih =>
      intro C hC hl
      refine ih _ ?_ (fun q hq => hl q (List.mem_cons_of_mem _ hq))
      unfold fl.wr1
      split
      · exact hC.both hd (hl x List.mem_cons_self)
      · exact hC
  refine key _ C h (fun q hq => ?_)
  unfold list at hq
  obtain ⟨j, hj, rfl⟩ := List.mem_map.1 hq
  exact hm j (List.mem_filter.1 hj).2
theorem nd_clash (hg : Good st f) (hr4 : r ≤ 4096) (hs : InsOk r s) (hfo : Found (tos f.bl) (-1) 0 rc) : ClR (Nd f rc s) (clash f.params.toNat f.bl rc s) := by
  have h1 : ClR (Nd f rc s) (cl1 f.bl rc s) := by
    unfold cl1
    have key : ∀ (l : List (Op × Nat)) (C : Cl), ClR (Nd f rc s) C → (∀ e ∈ l, Within (Nd f rc s) e.2 ∧ (0 ≤ e.1.d → Nd f rc s e.1.d.toNat)) → ClR (Nd f rc s) (l.foldl clEv C) := by
      intro l
      induction l with
      | nil => intro C hC _; exact hC
      | cons e l ih =>
        intro C hC hl
        refine ih _ ?_ (fun e' h' => hl e' (List.mem_cons_of_mem _ h'))
        obtain ⟨k1, k2⟩ := hl e List.mem_cons_self
        unfold clEv
        split
        · exact hC
        · rename_i hd
          exact hC.wr (k2 (by omega)) _ k1
    exact key _ _ (fun k j h => by rw [Nat.zero_testBit] at h; cases h) (nd_evs hg hr4 hs hfo _)
  have h2 : ClR (Nd f rc s) (cl2 f.bl rc s) := by
    unfold cl2
    have key : ∀ (l : List Nat) (C : Cl), ClR (Nd f rc s) C → ClR (Nd f rc s) (l.foldl (clSet f.bl rc s) C) := by
      intro l
      induction l with
      | nil => intro C hC; exact hC
      | cons i l ih =>
        intro C hC
        refine ih _ ?_
        unfold clSet
        split
        · rename_i x hx
          split
          · rename_i h9
            have hd : Nd f rc s x.ex.d.toNat := by
              refine needAt_of hx h9.1 (mem_needB.2 (.inr (.inr (.inr (.inr ⟨h9.2, ?_⟩)))))
              exact Int.toNat_of_nonneg (exit_set (hg.ex x (List.mem_of_getElem? hx)) h9.2).1
            exact (hC.wr hd _ (nd_to hg hr4 hs hfo hx h9.1 (set_tos h9.2).1)).wr hd _ (nd_to hg hr4 hs hfo hx h9.1 (set_tos h9.2).2)
          · exact hC
        · exact hC
    exact key _ _ h1
  have hl0 : 0 < f.bl.length := hg.b1
  have h0 : Within (Nd f rc s) (inAt s 0) := nd_in (i := 0) hr4 hs (List.getElem?_eq_getElem hl0) ((hfo.2 0 (by rw [tos_len]; exact hl0)).2 (Way.here (by decide)))
  unfold clash
  have key : ∀ (l : List Nat) (C : Cl), ClR (Nd f rc s) C → ClR (Nd f rc s) (l.foldl (clPar s) C) := by
    intro l
    induction l with
    | nil => intro C hC; exact hC
    | cons i l ih =>
      intro C hC
      refine ih _ ?_
      unfold clPar
      split
      · rename_i hb
        exact hC.wr (h0 i hb) _ h0
      · exact hC
  exact key _ _ h2
/-! what a right allocation keeps -/
theorem never_not {q : Nat} (hq : q < r) (h : Nd f rc s q) : (nots r (needs f.bl rc s f.bl.length))[q]? ≠ some true := by
  rw [nots_get _ _ _ hq]
  unfold Nd at h
  simp [h]
theorem right_pos {ps : List Int} (h : AllR f rc s r ps r) {q : Nat} (hq : q < r) (hn : Nd f rc s q) : 0 ≤ atP ps q := by
  have := (h q hq).1
  rcases Int.lt_or_le (atP ps q) 0 with h1 | h1
  · exact absurd (this h1) (never_not hq hn)
  · exact h1
theorem right_four {ps : List Int} (h : AllR f rc s r ps r) {q : Nat} (hq : q < r) (hn : Nd f rc s q) (ha : (q : Int) ∈ acL f rc s (anl f rc s r f.bl.length)) : 4 ≤ atP ps q := by
  have h0 := right_pos h hq hn
  have := ((h q hq).2 h0).1
  rw [marks_get _ _ _ hq] at this
  simp [ha] at this
  omega
theorem keeps_across {ps : List Int} (hg : Good st f) (hr4 : r ≤ 4096) (hreg : f.regs = (r : Int)) (hs : InsOk r s) (hfo : Found (tos f.bl) (-1) 0 rc) (h : AllR f rc s r ps r) : ∀ q ∈ list (across f.bl rc s), 0 ≤ q ∧ q < (r : Int) ∧ 4 ≤ atP ps q := fun q hq => by
  have hbl : ∀ x ∈ f.bl, BlOk r x := by have := hg.blOk; rw [hreg, Int.toNat_natCast] at this; exact this
  obtain ⟨j, rfl, hj, hb⟩ := list_nat (across_lt hbl hs) hq
  refine ⟨by omega, by omega, right_four h hj (nd_across hg hr4 hs hfo j hb) ?_⟩
  unfold acL
  exact List.mem_append_left _ hq
theorem keeps_clash {ps : List Int} (hg : Good st f) (hr4 : r ≤ 4096) (hs : InsOk r s) (hfo : Found (tos f.bl) (-1) 0 rc) (hct : ∀ k, clash f.params.toNat f.bl rc s k < 2 ^ r) (h : AllR f rc s r ps r) {a : Nat} (ha : a < r) : ∀ q ∈ clK f rc s a, 0 ≤ q ∧ q < (r : Int) ∧ atP ps a ≠ atP ps q := fun q hq => by
  obtain ⟨j, rfl, hj, hb⟩ := list_nat (hct a) hq
  refine ⟨by omega, by omega, ?_⟩
  have h0 := right_pos h ha (nd_clash hg hr4 hs hfo a j hb).1
  exact (((h a ha).2 h0).2.1 _ hq).symm
theorem keeps_live {ps : List Int} (hg : Good st f) (hr4 : r ≤ 4096) (hs : InsOk r s) (hfo : Found (tos f.bl) (-1) 0 rc) (h : AllR f rc s r ps r) {t : Tw} (ht : t ∈ anl f rc s r f.bl.length) {x : Bl} (hx : f.bl[t.1]? = some x) : ∀ q ∈ liveIn rc s x.ex.to.toNat, 0 ≤ q ∧ q < (r : Int) ∧ (q ≠ x.ex.d → 4 ≤ atP ps q) := fun q hq => by
  obtain ⟨x', hx', hr, h4, -, -⟩ := anl_mem ht
  obtain rfl := Option.some.inj (hx.symm.trans hx')
  have hq2 := hq
  unfold liveIn at hq2
  split at hq2
  · rename_i hk
    have hto := (exit_set (hg.ex x (List.mem_of_getElem? hx)) h4)
    have e : ((x.ex.to.toNat : Nat) : Int) = x.ex.to := Int.toNat_of_nonneg (by omega)
    rw [e] at hq2
    obtain ⟨j, rfl, hj, hb⟩ := list_nat (inAt_lt hs _) hq2
    refine ⟨by omega, by omega, fun hne => right_four h hj (nd_to hg hr4 hs hfo hx hr (set_tos h4).1 j hb) ?_⟩
    unfold acL
    refine List.mem_append_right _ (List.mem_flatMap.2 ⟨t, ht, ?_⟩)
    unfold acT
    rw [hx]
    refine List.mem_append_left _ ?_
    unfold less
    exact List.mem_filter.2 ⟨hq, by simp [hne]⟩
  · cases hq2
theorem kept_live {t : Tw} (ht : t ∈ anl f rc s r f.bl.length) : ∃ x, f.bl[t.1]? = some x ∧ rc[t.1]? = some true ∧ x.ex.k = 4 ∧ ∀ q ∈ t.2.1, q ∈ liveIn rc s x.ex.els.toNat := by
  obtain ⟨x, hx, hr, h4, e1, e2⟩ := anl_mem ht
  refine ⟨x, hx, hr, h4, fun q hq => ?_⟩
  rw [e1] at hq
  unfold less at hq
  exact (List.mem_filter.1 hq).1
theorem liveIn_nat (hg : Good st f) (hs : InsOk r s) {x : Bl} (hxm : x ∈ f.bl) (h4 : x.ex.k = 4) {q : Int} (hq : q ∈ liveIn rc s x.ex.els.toNat) : ∃ j : Nat, q = j ∧ j < r ∧ (inAt s x.ex.els).testBit j = true := by
  unfold liveIn at hq
  split at hq
  · have hto := (exit_set (hg.ex x hxm) h4)
    rw [Int.toNat_of_nonneg (by omega)] at hq
    exact list_nat (inAt_lt hs _) hq
  · cases hq
theorem keeps_kept {ps : List Int} (hg : Good st f) (hr4 : r ≤ 4096) (hs : InsOk r s) (hfo : Found (tos f.bl) (-1) 0 rc) (h : AllR f rc s r ps r) {t : Tw} (ht : t ∈ anl f rc s r f.bl.length) {x : Bl} (hx : f.bl[t.1]? = some x) : ∀ q ∈ t.2.1, 0 ≤ q ∧ q < (r : Int) ∧ 4 ≤ atP ps q ∧ ∀ p ∈ trues (btwOf f.bl x.ex r) r, 0 ≤ p ∧ p < (r : Int) ∧ (p ≠ q → q ∉ t.2.2 → 16 ≤ atP ps q → atP ps p ≠ atP ps q) := fun q hq => by
  obtain ⟨x', hx', hr, h4, hk⟩ := kept_live ht
  obtain rfl := Option.some.inj (hx.symm.trans hx')
  obtain ⟨j, rfl, hj, hb⟩ := liveIn_nat hg hs (List.mem_of_getElem? hx) h4 (hk q hq)
  refine ⟨by omega, by omega, right_four h hj (nd_to hg hr4 hs hfo hx hr (set_tos h4).2 j hb) ?_, fun p hp => ?_⟩
  · unfold acL
    refine List.mem_append_right _ (List.mem_flatMap.2 ⟨t, ht, ?_⟩)
    unfold acT
    rw [hx]
    exact List.mem_append_right _ hq
  · have hp2 := hp
    unfold trues at hp2
    obtain ⟨i, hi, rfl⟩ := List.mem_map.1 hp2
    have hir := List.mem_range.1 (List.mem_filter.1 hi).1
    refine ⟨by omega, by omega, fun hne hnr h16 => ?_⟩
    refine ((h j hj).2 (by omega)).2.2 h16 i hir ?_
    exact mem_wdL.2 (.inr ⟨t, ht, mem_wdT.2 ⟨x, hx, _, hq, hnr, _, hp, hne, .inl rfl⟩⟩)
/-! one register more -/
def moreF (f : Fn) : Fn := ⟨f.name, f.params, f.regs + 1, f.slots, f.bl⟩
theorem regB_more {R q : Int} {u m : Bool} (h : regB R q u m = true) : regB (R + 1) q u m = true := by
  unfold regB at h ⊢
  split
  · rename_i e
    rw [if_pos e] at h
    exact h
  · rename_i e
    rw [if_neg e] at h
    simp only [Bool.and_eq_true, decide_eq_true_eq] at h ⊢
    exact ⟨h.1, h.2.1, by omega⟩
theorem exitB_more {R : Int} {x : Ex} {nb : Int} (h : exitB R x nb = true) : exitB (R + 1) x nb = true := by
  unfold exitB at h ⊢
  split
  · rename_i e
    rw [if_pos e] at h
    exact h
  · rename_i e
    rw [if_neg e] at h
    split
    · rename_i e
      rw [if_pos e] at h
      rw [Bool.and_eq_true] at h ⊢
      exact ⟨regB_more h.1, h.2⟩
    · rename_i e
      rw [if_neg e] at h
      split
      · rename_i e
        rw [if_pos e] at h
        rw [Bool.and_eq_true] at h ⊢
        exact ⟨regB_more h.1, h.2⟩
      · rename_i e
        rw [if_neg e] at h
        split
        · rename_i e
          rw [if_pos e] at h
          rw [Bool.and_eq_true, Bool.and_eq_true] at h ⊢
          exact ⟨regB_more h.1, regB_more h.2.1, h.2.2⟩
        · rename_i e
          rw [if_neg e] at h
          exact h
theorem opB_more {R sl st : Int} {o : Op} (h : opB R sl st o = true) : opB (R + 1) sl st o = true := by
  unfold opB at h ⊢
  split
  · rename_i e
    rw [e] at h
    exact h
  · rename_i ru e
    rw [e] at h
    simp only [Bool.and_eq_true, List.all_eq_true] at h ⊢
    obtain ⟨h1, h2, h3, h4, h5, h6, h7, h8⟩ := h
    exact ⟨regB_more h1, regB_more h2, regB_more h3, h4, h5, h6, fun a ha => regB_more (h7 a ha), h8⟩
theorem fnB_more {st : Int} {f : Fn} (h : fnB st f = true) (h4 : f.regs < 4096) : fnB st (moreF f) = true := by
  unfold fnB headB at h ⊢
  simp only [Bool.and_eq_true, decide_eq_true_eq, List.all_eq_true] at h ⊢
  obtain ⟨⟨a0, a1, a2, a3, a4, a5, a6, a7⟩, b0, ⟨b1, b2⟩, b3⟩ := h
  refine ⟨⟨a0, a1, a2, ?_, ?_, a5, a6, a7⟩, b0, ⟨fun x hx => ?_, b2⟩, b3⟩
  · show f.params ≤ f.regs + 1
    omega
  · show f.regs + 1 ≤ 4096
    omega
  · have := b1 x hx
    unfold blB at this ⊢
    simp only [Bool.and_eq_true, List.all_eq_true] at this ⊢
    exact ⟨exitB_more this.1, fun o ho => opB_more (this.2 o ho)⟩
theorem btw_more (bl : List Bl) (x : Ex) {r j : Nat} (hj : j < r) : (btwOf bl x (r + 1))[j]? = (btwOf bl x r)[j]? := by
  unfold btwOf
  rw [List.getElem?_map, List.getElem?_map, List.getElem?_range hj, List.getElem?_range (by omega)]
theorem among_more {bl : List Bl} {x : Ex} {r : Nat} {l : List Int} (h : ∀ q ∈ l, 0 ≤ q ∧ q < (r : Int)) : among l (btwOf bl x (r + 1)) = among l (btwOf bl x r) := by
  unfold among
  refine List.filter_congr fun q hq => ?_
  obtain ⟨h0, h1⟩ := h q hq
  rw [btw_more bl x (by omega)]
theorem anl_more (hs : InsOk r s) (hrc : True) (n : Nat) : anl (moreF f) rc s (r + 1) n = anl f rc s r n := by
  unfold anl
  congr 1
  funext b
  unfold twAt
  show (match f.bl[b]? with | some x => _ | none => _) = _
  cases hx : f.bl[b]? with
  | none => rfl
  | some x =>
    simp only
    split
    · have hk : ∀ q ∈ less (liveIn rc s x.ex.els.toNat) x.ex.d, 0 ≤ q ∧ q < (r : Int) := fun q hq => by
        unfold less at hq
        exact liveIn_bd hs _ (List.mem_filter.1 hq).1
      have := among_more (bl := f.bl) (x := x.ex) hk
      show [(b, _, among _ (btwOf f.bl x.ex (r + 1)))] = _
      rw [this]
    · rfl
theorem trues_more {bl : List Bl} {x : Ex} {r : Nat} {p : Nat} (hp : p < r) (h : (p : Int) ∈ trues (btwOf bl x (r + 1)) (r + 1)) : (p : Int) ∈ trues (btwOf bl x r) r := by
  unfold trues at h ⊢
  obtain ⟨i, hi, e⟩ := List.mem_map.1 h
  have e2 : i = p := by have e3 : (i : Int) = p := e; omega
  subst e2
  have := (List.mem_filter.1 hi).2
  rw [btw_more bl x hp] at this
  exact List.mem_map.2 ⟨i, List.mem_filter.2 ⟨List.mem_range.2 hp, this⟩, rfl⟩
theorem wdL_more (hs : InsOk r s) {a b : Nat} (ha : a < r) (hb : b < r) (h : ((a : Int), (b : Int)) ∈ wdL (moreF f) rc s (r + 1) (anl (moreF f) rc s (r + 1) f.bl.length)) : ((a : Int), (b : Int)) ∈ wdL f rc s r (anl f rc s r f.bl.length) := by
  rw [anl_more hs trivial] at h
  rw [mem_wdL] at h ⊢
  rcases h with ⟨a', ha', e, hm⟩ | ⟨t, ht, hp⟩
  · have e2 : a = a' := by have e3 : (a : Int) = a' := e; omega
    subst e2
    exact .inl ⟨a, ha, rfl, hm⟩
  · refine .inr ⟨t, ht, ?_⟩
    rw [mem_wdT] at hp ⊢
    obtain ⟨x, hx, k, hk, hn, p, hp, hne, he⟩ := hp
    have hpr : ∃ i : Nat, p = i ∧ i < r := by
      rcases he with e | e
      · injection e with e1 e2
        exact ⟨b, e2.symm, hb⟩
      · injection e with e1 e2
        exact ⟨a, e1.symm, ha⟩
    obtain ⟨i, rfl, hi⟩ := hpr
    exact ⟨x, hx, k, hk, hn, _, trues_more hi hp, hne, he⟩
theorem more_right {ps : List Int} (hg : Good st f) (hreg : f.regs = (r : Int)) (hs : InsOk r s) (hct : ∀ k, clash f.params.toNat f.bl rc s k < 2 ^ r) (hps : ps.length = r) (h : AllR f rc s r ps r) : AllR (moreF f) rc s (r + 1) (ps ++ [-1]) (r + 1) := fun i hi => by
  rcases Nat.lt_or_ge i r with hir | hir
  · obtain ⟨h1, h2⟩ := h i hir
    have ei : atP (ps ++ [-1]) i = atP ps i := by rw [atP_app i (by omega), if_neg (by omega)]
    rw [nots_get _ _ _ hir] at h1
    rw [marks_get _ _ _ hir] at h2
    unfold RightP
    rw [nots_get _ _ _ hi, marks_get _ _ _ hi, ei]
    show (_ → some (!decide (_ ∈ needs f.bl rc s f.bl.length)) = _) ∧ (_ → ¬ (_ ∧ some (decide (_ ∈ acL (moreF f) rc s (anl (moreF f) rc s (r + 1) f.bl.length))) = some true) ∧ (∀ s' ∈ clK f rc s i, _) ∧ _)
    rw [anl_more hs trivial]
    refine ⟨h1, fun h0 => ?_⟩
    obtain ⟨k1, k2, k3⟩ := h2 h0
    refine ⟨k1, fun q hq => ?_, fun h16 q hq hm => ?_⟩
    · obtain ⟨q0, q1⟩ := clK_lt hct i q hq
      obtain ⟨j, rfl⟩ := Int.eq_ofNat_of_zero_le q0
      rw [atP_app j (by omega), if_neg (by omega)]
      exact k2 _ hq
    · rw [atP_app q (by omega)]
      split
      · omega
      · have hqr : q < r := by omega
        refine k3 h16 q hqr ?_
        have hm2 : ((i : Int), (q : Int)) ∈ wdL (moreF f) rc s (r + 1) (anl (moreF f) rc s (r + 1) f.bl.length) := hm
        exact wdL_more hs hir hqr hm2
  · obtain rfl : i = r := by omega
    have ei : atP (ps ++ [-1]) i = -1 := by rw [atP_app i (by omega), if_pos hps.symm]
    unfold RightP
    rw [ei, nots_get _ _ _ hi]
    refine ⟨fun _ => ?_, fun h0 => by omega⟩
    have : (i : Int) ∉ needs (moreF f).bl rc s (moreF f).bl.length := fun hm => by
      have := needs_lt hg hreg hs f.bl.length _ hm
      omega
    simp [this]
theorem more_shape {ps : List Int} {wd : Int} (h : ShapeP ps wd r) : ShapeP (ps ++ [-1]) wd (r + 1) := by
  obtain ⟨h1, h2, h3, h4⟩ := h
  refine ⟨by simp [h1], h2, h3, fun p hp => ?_⟩
  rcases List.mem_append.1 hp with hp | hp
  · exact h4 p hp
  · obtain rfl := List.mem_singleton.1 hp
    exact ⟨by omega, .inl (by omega), by omega⟩
theorem more_not {ps : List Int} {wd : Int} : ¬ ShapeP (ps ++ [16 + wd]) wd (r + 1) := fun h => by
  have := (h.2.2.2 (16 + wd) (by simp)).2.2
  omega
end
end Go.Proofs.YthgbmhpfblgjcaaGreatDoor.fl
namespace Go.Proofs.YthgbmhpfblgjcaaGreatDoor.fl
open Go.RowKit Go.Shelf
open M T ty
set_option linter.unusedVariables false
theorem compact_nil (w : World) : Calls Tryz.prog 41 #[.slice none 0 0] w fun e w' => e = .returned (.slice none 0 0) ∧ w' = w := by
  go_enter Tryz.func41, Tryz.ntmps41
  go_wp2_with fail
  go_ret
  exact ⟨rfl, rfl⟩
set_option maxRecDepth 20000 in
set_option maxHeartbeats 4000000 in
theorem Used_none (ps : List Int) (words : Int) (A : Option Addr) (c : Nat) (w : World) (hp : Rd w w.heap.size A (ints ps)) (hl : ps.length ≤ 4096) (h : ∀ p ∈ ps, p < 0 ∨ 16 ≤ p) :
    Calls Tryz.prog 18 #[.agg #[.slice A ps.length c, .int .i64 words]] w fun e w' => e = .returned (.slice none 0 0) ∧ Below w.heap.size w w' := by
  have HB0 : Hid (Below w.heap.size w (w.alloc (.cells #[.slice A ps.length c, .int .i64 words] 29))) := Lib.hid ((Below.refl _ _).alloc (Nat.le_refl _) _)
  have HP := Lib.hid (hp.below HB0.out)
  have HH := Lib.hid h
  clear hp h
  go_enter Tryz.func18, Tryz.ntmps18
  go_wp2_with fail
  generalize w.alloc (.cells #[.slice A ps.length c, .int .i64 words] 29) = W1 at *
  have HSO := Lib.hid (sort_40 0 (.slice none 0 0) [] W1 (by simp) ⟨rfl, .inl ⟨rfl, rfl⟩⟩)
  go_loopg [9, 3] ps.length (fun N t o wr => ∃ j, j ≤ ps.length ∧ N = ps.length - j ∧ t = .int .i64 j ∧ o = .slice none 0 0 ∧ W1 = wr)
  case atStart => exact ⟨0, by omega, rfl, rfl, rfl, rfl⟩
  case round =>
    obtain ⟨j, hj, rfl, rfl, rfl, rfl⟩ := hrel
    by_cases hlj : j < ps.length
    · have hljI : (j : Int) < (ps.length : Int) := by omega
      obtain ⟨ad, p, x, rfl, hx, hp, -, d0⟩ := rd_int HP.out hlj
      have hcs := HH.out x (List.mem_of_getElem? hx)
      clear hx
      rcases hcs with h9 | h9
      all_goals
        go_wp2_with fail
        go_roundg (ps.length - (j + 1))
        case measure => omega
        case rel => exact ⟨j + 1, by omega, rfl, by go_num, rfl, rfl⟩
    · obtain rfl : j = ps.length := by omega
      go_wp2_with (first
        | (go_at_call 41; go_loud ((refine (compact_nil _).mono ?_; rintro e w3 ⟨rfl, rfl⟩)))
        | (go_at_call 40; go_loud ((refine HSO.out.mono ?_; rintro e w2 ⟨rfl, -, hg⟩; have HG := Lib.hid hg; clear hg))))
      go_ret
      exact ⟨rfl, HB0.out.grown HG.out HB0.out.size (fun g e => by cases e)⟩
/-- an allocation under way since world w3 -/
structure EnvEx (w3 W : World) (xb : Nat) (v : Value) (ps : List Int) (wd : Nat) : Prop where
  x : W.heap[xb]? = some (.cells #[v, .int .i64 (wd : Int)] 29 (0, 0))
  own : W.ownsRow w3.heap.size 3 1 v ps.length (ints ps)
  b : Below w3.heap.size w3 W
  l : w3.heap.size ≤ xb
section
variable {w3 W W' : World} {xb wd : Nat} {v : Value} {ps : List Int}
theorem EnvEx.lt (h : EnvEx w3 W xb v ps wd) : xb < W.heap.size := (Array.getElem?_eq_some_iff.1 h.x).1
theorem EnvEx.off (h : EnvEx w3 W xb v ps wd) : v.ownBlock ≠ some xb := fun e => by
  rcases h.own.2 with ⟨rfl, -⟩ | ⟨g, cap, cur, rfl, -, hg, -⟩
  · simp [Value.ownBlock] at e
  · obtain rfl : g = xb := by simpa [Value.ownBlock] using e
    have := h.x.symm.trans hg
    simp at this
theorem EnvEx.after (h : EnvEx w3 W xb v ps wd) (hb : Below W.heap.size W W') : EnvEx w3 W' xb v ps wd :=
  ⟨(hb.block xb h.lt).trans h.x, own_below_size h.own hb, h.b.trans (hb.mono h.b.size), h.l⟩
theorem EnvEx.app (h : EnvEx w3 W xb v ps wd) {y : Int} {tmp : Obj} {v' : Value} (ho : W'.ownsRow w3.heap.size 3 1 v' (ps ++ [y]).length (ints (ps ++ [y]))) (hg : (W.alloc tmp).grownBy W' v.ownBlock) : W'.heap[xb]? = some (.cells #[v, .int .i64 (wd : Int)] 29 (0, 0)) ∧ EnvEx w3 (W'.setCell ⟨xb, 0, none⟩ v') xb v' (ps ++ [y]) wd := by
  have hx : W'.heap[xb]? = some (.cells #[v, .int .i64 (wd : Int)] 29 (0, 0)) := (hg.block xb (by have := h.lt; rw [World.size_alloc]; omega) (fun e => h.off e.symm)).trans ((heap_alloc_lt W tmp h.lt).trans h.x)
  have hb : Below w3.heap.size w3 W' := (h.b.alloc h.b.size tmp).grown hg (by have := h.b.size; rw [World.size_alloc]; omega) (fun g e => (h.own.lt g e).1)
  refine ⟨hx, ⟨?_, own_same ho fun g e => heap_other _ (fun e2 => ?_), hb.setCell (p := ⟨xb, 0, none⟩) h.l _, h.l⟩⟩
  · rw [heap_set (o := 0) hx]
    rfl
  · rw [e2] at e
    rcases ho.2 with ⟨rfl, -⟩ | ⟨g', cap, cur, rfl, -, hg', -⟩
    · simp [Value.ownBlock] at e
    · obtain rfl : g' = xb := by simpa [Value.ownBlock] using e
      have := hx.symm.trans hg'
      simp at this
theorem EnvEx.word (h : EnvEx w3 W xb v ps wd) (k : Nat) : EnvEx w3 (W.setCell ⟨xb, 1, none⟩ (.int .i64 (k : Int))) xb v ps k := by
  refine ⟨?_, own_same h.own fun g e => heap_other _ (fun e2 => h.off (by rw [e, e2])), h.b.setCell (p := ⟨xb, 1, none⟩) h.l _, h.l⟩
  rw [heap_set (o := 1) h.x]
  rfl
end
theorem trues_get {nv : List Bool} {r j : Nat} {b : Bool} (hj : j < r) (h : nv[j]? = some b) : decide ((j : Int) ∈ trues nv r) = b := by
  unfold trues
  have : ((j : Int) ∈ (List.filter (fun i => nv[i]?.getD false) (List.range r)).map fun i : Nat => (i : Int)) ↔ b = true := by
    rw [List.mem_map]
    constructor
    · rintro ⟨i, hi, e⟩
      have e2 : i = j := by have e3 : (i : Int) = j := e; omega
      subst e2
      have := (List.mem_filter.1 hi).2
      rw [h] at this
      simpa using this
    · rintro rfl
      exact ⟨j, List.mem_filter.2 ⟨List.mem_range.2 hj, by rw [h]; rfl⟩, rfl⟩
  cases b
  · exact decide_eq_false (fun h9 => by have := this.1 h9; cases this)
  · exact decide_eq_true (this.2 rfl)
set_option maxRecDepth 20000 in
set_option maxHeartbeats 16000000 in
theorem exists_law (hworks : ∀ w, Tabs w → Calls Tryz.prog 6 #[] w fun e w' => e = .returned (.bool true) ∧ Below w.heap.size w w') (f : Fn) (L : FLay) (w : World) (h : Lies w f L) :
    Calls Tryz.prog 5 #[fnV f L] w fun e w' => e = .returned (.bool true) ∧ Below w.heap.size w w' := by
  have HAL : Hid (Below w.heap.size w (w.alloc (FObj f L))) := Lib.hid ((Below.refl _ _).alloc (Nat.le_refl _) _)
  have HLI := Lib.hid (fun W (hW : Below w.heap.size w W) => h.after hW)
  have HWK := Lib.hid (hworks _ (h.after HAL.out).tabs)
  have HV : Hid (FBox (w.alloc (FObj f L)) w.heap.size f L) := Lib.hid (heap_alloc_new w _)
  cases hok : fnB 4611686018427387904 f with
  | false =>
    have HNV := Lib.hid (fun W (hW : Below w.heap.size w W) => Never_no f L W (HLI.out W hW) hok)
    clear h hok
    obtain ⟨SA, sc, BA, bc, OA, oc, AA, ac⟩ := L
    unfold fnV at HNV ⊢
    unfold FObj at HAL HWK HV
    simp only at HAL HWK HV HNV ⊢
    go_enter Tryz.func5, Tryz.ntmps5
    go_wp2_with (first
      | (go_at_call 17; go_loud ((refine (HNV.out _ HB1.out).mono ?_; rintro e w2 ⟨rfl, hb2⟩; have HB2 := Lib.hid (HB1.out.trans (hb2.mono HB1.out.size)); clear hb2)))
      | (go_at_call 6; go_loud ((refine HWK.out.mono ?_; rintro e w1 ⟨rfl, hb1⟩; obtain ⟨c0, c1, c2, c3, c4⟩ := (HV.out.after hb1).cells; have HB1 := Lib.hid (HAL.out.trans (hb1.mono HAL.out.size)); clear hb1))))
    go_ret
    exact ⟨rfl, HB2.out⟩
  | true =>
    have hst0 := h.stands hok
    have hreg := hst0.reg
    generalize f.regs.toNat = r at *
    have hr4 := hst0.r4
    have hrI : (r : Int) ≤ 4096 := by omega
    have HST := Lib.hid (fun W (hW : Below w.heap.size w W) => hst0.after hW)
    have HNV := Lib.hid (fun W (hW : Below w.heap.size w W) => Never_17 f L r W (HST.out W hW))
    have HCK := Lib.hid (fun W (hW : Below w.heap.size w W) => Check_16 f L r W (HST.out W hW))
    have HREG := Lib.hid hreg
    clear h hok hst0 hreg HLI HST
    obtain ⟨SA, sc, BA, bc, OA, oc, AA, ac⟩ := L
    unfold fnV at HNV HCK ⊢
    unfold FObj at HAL HWK HV
    unfold NeverP at HNV
    simp only at HAL HWK HV HNV HCK ⊢
    go_enter Tryz.func5, Tryz.ntmps5
    go_wp2_with (first
      | (go_at_call 17; go_loud ((refine (HNV.out _ HB1.out).mono ?_; rintro e w2 ⟨rc, s, v2, rfl, hin, hfo, hli, hb2⟩; obtain ⟨NA, nc, rfl, hno⟩ := hin; have HNO := Lib.hid hno; have HFO := Lib.hid hfo; have HLI := Lib.hid hli; have HV2 := Lib.hid (HV1.out.after hb2); have HB2 := Lib.hid (HB1.out.trans (hb2.mono HB1.out.size)); obtain ⟨d0, d1, d2, d3, d4⟩ := (HV1.out.after hb2).cells; rw [HREG.out] at d2; have hfl := HV2.out.lt; clear hno hfo hli hb2 c0 c1 c2 c3 c4)))
      | (go_at_call 6; go_loud ((refine HWK.out.mono ?_; rintro e w1 ⟨rfl, hb1⟩; have HV1 := Lib.hid (HV.out.after hb1); obtain ⟨c0, c1, c2, c3, c4⟩ := (HV.out.after hb1).cells; have HB1 := Lib.hid (HAL.out.trans (hb1.mono HAL.out.size)); clear hb1))))
    have HX0 : Hid (EnvEx w2 (w2.alloc (.cells #[.slice none 0 0, .int .i64 0] 29)) w2.heap.size (.slice none 0 0) [] 0) := Lib.hid ⟨heap_alloc_new w2 _, World.ownsRow_nil _ _ _ _, (Below.refl _ _).alloc (Nat.le_refl _) _, Nat.le_refl _⟩
    clear d0 d1 d2 d3 d4
    have HNR := Lib.hid (Rd.of_own HNO.out)
    have HCF : Hid (∀ W PA pc, Below w.heap.size w W → Rd W W.heap.size PA (ints (exW (nots r (needs f.bl rc s f.bl.length)) r).1) → Calls Tryz.prog 16 #[.agg #[.string f.name, .int .i64 f.params, .int .i64 f.regs, .slice SA f.slots.length sc, .slice BA f.bl.length bc], .agg #[.slice PA r pc, .int .i64 ((exW (nots r (needs f.bl rc s f.bl.length)) r).2 : Int)]] W fun e w' => e = .returned (.int .i64 0) ∧ Below W.heap.size W w') := Lib.hid fun W PA pc hb hrd => by
      have hx := exW_is (nots r (needs f.bl rc s f.bl.length)) r
      have := HCK.out W hb (exW (nots r (needs f.bl rc s f.bl.length)) r).1 ((exW (nots r (needs f.bl rc s f.bl.length)) r).2 : Int) (pc := pc) hrd (by rw [hx.len]; exact hr4) (by omega) (by have := hx.wd; omega)
      rw [hx.len] at this
      refine this.mono ?_
      rintro e w' ⟨rc', s', n, rfl, hfo, hli, hct, -, hn, hb⟩
      obtain rfl := HFO.out.unique hfo
      obtain rfl := HLI.out.unique hli
      obtain rfl := hn.2 ⟨exW_shape _ hr4, exW_all hr4 hct⟩
      exact ⟨rfl, hb⟩
    have hnl : (nots r (needs f.bl rc s f.bl.length)).length = r := nots_length _ _
    have HEX : Hid (∀ p ∈ (exW (nots r (needs f.bl rc s f.bl.length)) r).1, p < 0 ∨ 16 ≤ p) := Lib.hid fun p hp => by
      have hx := exW_is (nots r (needs f.bl rc s f.bl.length)) r
      obtain ⟨q, hq, rfl⟩ := atP_mem hp
      rcases hx.pl q (by rw [hx.len] at hq; exact hq) with h1 | h1
      · exact .inl (by omega)
      · exact .inr h1.1
    clear HWK HNV HCK HAL HV HV1 HB1
    generalize nots r (needs f.bl rc s f.bl.length) = nv at *
    have HXI := Lib.hid (exW_is nv)
    have HXS : Hid (∀ i, exW nv (i + 1) = if nv[i]?.getD false = true then ((exW nv i).1 ++ [-1], (exW nv i).2) else ((exW nv i).1 ++ [16 + ((exW nv i).2 : Int)], (exW nv i).2 + 1)) := Lib.hid fun i => rfl
    have HX1 : Hid (EnvEx w2 (w2.alloc (.cells #[.slice none 0 0, .int .i64 0] 29)) w2.heap.size (.slice none 0 0) (exW nv 0).1 (exW nv 0).2) := Lib.hid HX0.out
    have HNL := Lib.hid hnl
    clear HX0 hnl
    generalize exW nv = q at *
    generalize w2.alloc (.cells #[.slice none 0 0, .int .i64 0] 29) = W3 at *
    generalize hxe : w2.heap.size = xb at *
    have HXE := Lib.hid hxe
    clear hxe
    go_loopg [22] r (fun N t wr => ∃ j v, j ≤ r ∧ N = r - j ∧ t = .int .i64 j ∧ EnvEx w2 wr xb v (q j).1 (q j).2)
    case atStart => exact ⟨0, _, by omega, rfl, rfl, HX1.out⟩
    case round =>
      obtain ⟨j, v, hj, rfl, rfl, he⟩ := hrel
      clear HX1
      obtain ⟨A9, c9, rfl, -, -⟩ := own_form he.own
      have hjl := (HXI.out j).len
      rw [hjl] at he
      have HE := Lib.hid he
      have x0 := Go.Joins.cell_of_block he.x 0
      have x1 := Go.Joins.cell_of_block he.x 1
      have xf0 := Go.Joins.unfrozen_of_block he.x 0
      have xf1 := Go.Joins.unfrozen_of_block he.x 1
      have hjw := (HXI.out j).wd
      clear he
      by_cases hlj : j < r
      · have hljI : (j : Int) < (r : Int) := by omega
        have hn9 : nv[j]? = some (nv[j]'(by rw [HNL.out]; exact hlj)) := List.getElem?_eq_getElem _
        have hhas := Has_13 NA nc (trues nv r) (j : Int) _ wr (by have := trues_len nv r; simp only [maxLen]; omega) (HNR.out.below (by have h9 := HE.out.b; rw [HXE.out] at h9; exact h9))
        rw [trues_get hlj hn9] at hhas
        have hxs := HXS.out j
        rw [hn9, Option.getD_some] at hxs
        generalize nv[j]'(by rw [HNL.out]; exact hlj) = bn at *
        have HHS := Lib.hid hhas
        clear hn9 hhas
        have hml : ((q j).1.length + 1) * 8 ≤ 140737488355328 := by rw [hjl]; omega
        have HOWN := Lib.hid HE.out.own
        cases bn with
        | true =>
          rw [if_pos rfl] at hxs
          have HXJ := Lib.hid hxs
          have HJL := Lib.hid hjl
          clear hxs hjl
          go_wp2_with (first
            | (at_builtin; go_loud (refine wpList_app_one (w := wr.alloc (.cells #[.int .i64 (-1)] 3)) rfl (.tmp 29) (.tmp 30) rfl (r := (-1 : Int)) rfl (HE.out.own.alloc _) rfl (heap_alloc_new wr _) hml (by have := HE.out.b.size; simp; omega) ?_); intro v6 w6 ho6 hg6; obtain ⟨hx6, he6⟩ := HE.out.app (y := -1) ho6 hg6; obtain ⟨A6, c6, rfl, -, -⟩ := own_form ho6; rw [List.length_append, List.length_singleton] at he6; have y0 := Go.Joins.cell_of_block hx6 0; have yf := Go.Joins.unfrozen_of_block hx6 0; have HE6 := Lib.hid he6; clear ho6 hg6 hx6 he6)
            | (go_at_call 13; go_loud ((refine HHS.out.mono ?_; rintro e wr ⟨rfl, rfl⟩))))
          go_roundg (r - (j + 1))
          case measure => omega
          case rel => exact ⟨j + 1, _, by omega, rfl, by go_num, by rw [HXJ.out]; exact HE6.out⟩
        | false =>
          rw [if_neg (by decide)] at hxs
          have HXJ := Lib.hid hxs
          have HJL := Lib.hid hjl
          clear hxs hjl
          go_wp2_with (first
            | (at_builtin; go_loud (refine wpList_app_one (w := wr.alloc (.cells #[.int .i64 (16 + ((q j).2 : Int))] 3)) rfl (.tmp 34) (.tmp 38) rfl (r := (16 + ((q j).2 : Int))) rfl (HE.out.own.alloc _) rfl (heap_alloc_new wr _) hml (by have := HE.out.b.size; simp; omega) ?_); intro v6 w6 ho6 hg6; obtain ⟨hx6, he6⟩ := HE.out.app (y := 16 + ((q j).2 : Int)) ho6 hg6; obtain ⟨A6, c6, rfl, -, -⟩ := own_form ho6; rw [List.length_append, List.length_singleton] at he6; have y0 := Go.Joins.cell_of_block hx6 0; have yf := Go.Joins.unfrozen_of_block hx6 0; have z1 := Go.Joins.cell_of_block he6.x 1; have zf := Go.Joins.unfrozen_of_block he6.x 1; have HE6 := Lib.hid he6; clear ho6 hg6 hx6 he6)
            | (go_at_call 13; go_loud ((refine HHS.out.mono ?_; rintro e wr ⟨rfl, rfl⟩))))
          go_roundg (r - (j + 1))
          case measure => omega
          case rel =>
            have h9 := HE6.out.word ((q j).2 + 1)
            rw [show (((q j).2 + 1 : Nat) : Int) = ((q j).2 : Int) + 1 by omega] at h9
            exact ⟨j + 1, _, by omega, rfl, by go_num, by rw [HXJ.out]; exact h9⟩
      · obtain rfl : j = r := by omega
        have hb : Below w.heap.size w wr := HB2.out.trans (HE.out.b.mono HB2.out.size)
        obtain ⟨d0, d1, d2, d3, d4⟩ := (HV2.out.after HE.out.b).cells
        have hrd : Rd wr wr.heap.size A9 (ints (q j).1) := Rd.of_own (n := (q j).1.length) (c := c9) (base := w2.heap.size) (e := 3) (size := 1) (by have h9 := HE.out.own; rw [hjl] at h9 ⊢; exact h9)
        have hck := HCF.out wr A9 c9 hb hrd
        have HCK := Lib.hid hck
        have hus := fun W (hW : Below wr.heap.size wr W) => Used_none (q j).1 ((q j).2 : Int) A9 c9 W ((hrd.below hW).more hW.size) (by rw [hjl]; exact hr4) HEX.out
        rw [hjl] at hus
        have HUS := Lib.hid hus
        have HBW := Lib.hid hb
        have HJL := Lib.hid hjl
        have hxl := HE.out.lt
        clear hrd hck hus hb hjl
        have HRD := Lib.hid HREG.out
        go_wp2_with (first
          | (go_at_call 18; go_loud ((refine (HUS.out _ HB7.out).mono ?_; rintro e w8 ⟨rfl, hb8⟩; have HB8 := Lib.hid (HB7.out.trans (hb8.mono HB7.out.size)); clear hb8)))
          | (go_at_call 16; go_loud ((refine HCK.out.mono ?_; rintro e w7 ⟨rfl, hb7⟩; have y0 := (hb7.cell (p := ⟨xb, 0, none⟩) hxl).trans x0; have y1 := (hb7.cell (p := ⟨xb, 1, none⟩) hxl).trans x1; have HB7 := Lib.hid hb7; clear hb7))))
        go_ret
        exact ⟨rfl, HBW.out.trans (HB8.out.mono HBW.out.size)⟩
end Go.Proofs.YthgbmhpfblgjcaaGreatDoor.fl
