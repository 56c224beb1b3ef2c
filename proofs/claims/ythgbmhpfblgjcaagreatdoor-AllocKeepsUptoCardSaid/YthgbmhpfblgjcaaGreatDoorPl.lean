/-
  Sets of registers as masks; the graph of a function; what is live. No program's code in sight.
-/
import Derived.WalkKit
set_option linter.unusedVariables false
set_option linter.unusedSimpArgs false
namespace Go.Proofs.YthgbmhpfblgjcaaGreatDoor.fl
set_option linter.unusedVariables false
/-- an operation -/
structure Op where
  (k d a b imm : Int) (text : ByteArray) (args : List Int)
/-- an exit -/
structure Ex where
  (k a d to els : Int)
/-- a block -/
structure Bl where
  (ops : List Op) (ex : Ex)
/-- a variable that has a place in memory -/
structure Slot where
  (bytes align : Int) (vol : Bool)
/-- a function -/
structure Fn where
  (name : ByteArray) (params regs : Int) (slots : List Slot) (bl : List Bl)
/-! masks -/
def put (m : Nat) (n : Int) : Nat := m ||| 2 ^ n.toNat
def drop (m : Nat) (n : Int) : Nat := if 0 ≤ n then m &&& (2 ^ 4096 - 1 - 2 ^ n.toNat) else m
def has (m : Nat) (n : Int) : Bool := decide (0 ≤ n) && m.testBit n.toNat
/-- the members, rising -/
def list (m : Nat) : List Int := ((List.range 4096).filter m.testBit).map Int.ofNat
theorem lt_up {m a b : Nat} (hm : m < 2 ^ a) (h : a ≤ b) : m < 2 ^ b := Nat.lt_of_lt_of_le hm (Nat.pow_le_pow_right (by decide) h)
theorem pow_up {a b : Nat} (h : a < b) : 2 ^ a < 2 ^ b := Nat.pow_lt_pow_right (by decide) h
theorem mem_list {m : Nat} {n : Int} (hm : m < 2 ^ 4096) : n ∈ list m ↔ has m n = true := by
  unfold list has
  simp only [List.mem_map, List.mem_filter, List.mem_range, Bool.and_eq_true, decide_eq_true_eq]
  constructor
  · rintro ⟨j, ⟨h1, h2⟩, rfl⟩
    exact ⟨Int.natCast_nonneg _, by simpa using h2⟩
  · rintro ⟨h1, h2⟩
    refine ⟨n.toNat, ⟨?_, h2⟩, by simpa using Int.toNat_of_nonneg h1⟩
    rcases Nat.lt_or_ge n.toNat 4096 with h | h
    · exact h
    · have : m < 2 ^ n.toNat := lt_up (a := 4096) hm h
      rw [Nat.testBit_lt_two_pow this] at h2
      cases h2
theorem bit_put (m : Nat) (n : Int) (j : Nat) : (put m n).testBit j = (m.testBit j || decide (n.toNat = j)) := by
  unfold put
  rw [Nat.testBit_or, Nat.testBit_two_pow]
theorem bit_drop {m : Nat} (hm : m < 2 ^ 4096) {n : Int} (hn : n < 4096) (j : Nat) : (drop m n).testBit j = (m.testBit j && !(decide (0 ≤ n) && decide (n.toNat = j))) := by
  unfold drop
  split
  · rename_i h0
    have hlt : 2 ^ n.toNat < 2 ^ 4096 := pow_up (b := 4096) (by omega)
    rw [show 2 ^ 4096 - 1 - 2 ^ n.toNat = 2 ^ 4096 - (2 ^ n.toNat + 1) by omega, Nat.testBit_and, Nat.testBit_two_pow_sub_succ hlt, Nat.testBit_two_pow]
    rw [decide_eq_true h0]
    rcases Nat.lt_or_ge j 4096 with h | h
    · rw [decide_eq_true h]; simp
    · have : m < 2 ^ j := lt_up (a := 4096) hm h
      rw [Nat.testBit_lt_two_pow this]; simp
  · rename_i h0
    rw [decide_eq_false h0]
    simp
theorem put_lt {m : Nat} {n : Int} {r : Nat} (hm : m < 2 ^ r) (hn : n < r) (h0 : 0 ≤ n) : put m n < 2 ^ r := Nat.or_lt_two_pow hm (Nat.pow_lt_pow_right (by decide) (by omega))
theorem drop_le (m : Nat) (n : Int) : drop m n ≤ m := by
  unfold drop
  split
  · exact Nat.and_le_left
  · exact Nat.le_refl _
theorem drop_lt {m : Nat} {n : Int} {r : Nat} (hm : m < 2 ^ r) : drop m n < 2 ^ r := Nat.lt_of_le_of_lt (drop_le m n) hm
theorem join_lt {a b r : Nat} (ha : a < 2 ^ r) (hb : b < 2 ^ r) : a ||| b < 2 ^ r := Nat.or_lt_two_pow ha hb
/-- b's members are a's -/
def Sub (b a : Nat) : Prop := b ||| a = a
theorem sub_bit {a b : Nat} : Sub b a ↔ ∀ j, b.testBit j = true → a.testBit j = true := by
  unfold Sub
  constructor
  · intro h j hj
    rw [← h, Nat.testBit_or, hj, Bool.true_or]
  · intro h
    apply Nat.eq_of_testBit_eq
    intro j
    rw [Nat.testBit_or]
    cases hb : b.testBit j with
    | false => simp
    | true => simp [h j hb]
theorem Sub.refl (a : Nat) : Sub a a := by unfold Sub; simp
theorem Sub.trans {a b c : Nat} (h : Sub a b) (k : Sub b c) : Sub a c := sub_bit.2 fun j hj => sub_bit.1 k j (sub_bit.1 h j hj)
theorem sub_left (a b : Nat) : Sub a (a ||| b) := sub_bit.2 fun j hj => by rw [Nat.testBit_or, hj, Bool.true_or]
theorem sub_right (a b : Nat) : Sub b (a ||| b) := sub_bit.2 fun j hj => by rw [Nat.testBit_or, hj, Bool.or_true]
theorem Sub.le {a b : Nat} (h : Sub a b) : a ≤ b := by
  unfold Sub at h
  rw [← h]
  exact Nat.left_le_or
/-! exits, operations -/
def exitRegs (x : Ex) : List Int := if x.k = 2 ∨ x.k = 4 then [x.a] else if x.k = 3 ∧ 0 ≤ x.a then [x.a] else []
def exitTo (x : Ex) : List Int := if x.k = 1 then [x.to] else if x.k = 2 ∨ x.k = 4 then [x.to, x.els] else []
def once (l : List Int) : List Int := l.foldl (fun acc k => if k ∈ acc then acc else acc ++ [k]) []
def readsOp (o : Op) : List Int := (o.a :: o.b :: o.args).filter (fun r => decide (0 ≤ r))
/-! the graph -/
/-- there is a way from a to b, by blocks that are not 'but' -/
inductive Way (to : List (List Int)) (but : Int) (a : Int) : Int → Prop
  | here : a ≠ but → Way to but a a
  | step {b c : Int} {l : List Int} : Way to but a b → 0 ≤ b → to[b.toNat]? = some l → c ∈ l → c ≠ but → Way to but a c
/-- every edge leads to a block -/
def Closed (to : List (List Int)) : Prop := ∀ l ∈ to, ∀ c ∈ l, 0 ≤ c ∧ c < to.length
theorem Way.bd {to : List (List Int)} {but a b : Int} (h : Way to but a b) (hc : Closed to) (ha : 0 ≤ a ∧ a < to.length) : 0 ≤ b ∧ b < to.length := by
  induction h with
  | here _ => exact ha
  | step _ _ hl hm _ _ => exact hc _ (List.mem_of_getElem? hl) _ hm
theorem Way.ne {to : List (List Int)} {but a b : Int} (h : Way to but a b) : b ≠ but := by
  cases h with
  | here h => exact h
  | step _ _ _ _ h => exact h
/-- what a search has found: just what there is a way to -/
def Found (to : List (List Int)) (but a : Int) (seen : List Bool) : Prop := seen.length = to.length ∧ ∀ b : Nat, b < to.length → (seen[b]? = some true ↔ Way to but a b)
theorem Found.unique {to : List (List Int)} {but a : Int} {s t : List Bool} (h : Found to but a s) (k : Found to but a t) : s = t := by
  apply List.ext_getElem (h.1.trans k.1.symm)
  intro i h1 h2
  have hl : i < to.length := by rw [← h.1]; exact h1
  have a1 := h.2 i hl
  have a2 := k.2 i hl
  rw [List.getElem?_eq_getElem h1] at a1
  rw [List.getElem?_eq_getElem h2] at a2
  cases hs : s[i] <;> cases ht : t[i] <;> simp_all
theorem once_mem (l : List Int) : ∀ (acc : List Int) (c : Int), c ∈ l.foldl (fun acc k => if k ∈ acc then acc else acc ++ [k]) acc ↔ c ∈ acc ∨ c ∈ l := by
  induction l with
  | nil => simp
  | cons x r ih =>
    intro acc c
    rw [List.foldl_cons, ih]
    split
    · rename_i h
      constructor
      · rintro (h1 | h1)
        · exact .inl h1
        · exact .inr (List.mem_cons_of_mem _ h1)
      · rintro (h1 | h1)
        · exact .inl h1
        · rcases List.mem_cons.1 h1 with rfl | h2
          · exact .inl h
          · exact .inr h2
    · simp only [List.mem_append, List.mem_cons, List.not_mem_nil, or_assoc, or_false, false_or]
theorem mem_once {l : List Int} {c : Int} : c ∈ once l ↔ c ∈ l := by
  unfold once
  rw [once_mem]
  simp
/-! what is live -/
def jumps (o : Op) : Bool := decide (o.k = 28) || (decide (o.k = 29) && (decide (o.text = ⟨#[108, 111, 110, 103, 106, 109, 112]⟩) || decide (o.text = ⟨#[99, 111, 95, 114, 101, 115, 117, 109, 101]⟩) || decide (o.text = ⟨#[99, 111, 95, 121, 105, 101, 108, 100]⟩)))
/-- the sets of a function's blocks -/
abbrev Ins := List Nat
def inAt (s : Ins) (k : Int) : Nat := (s[k.toNat]?).getD 0
def secondFrom (reached : List Bool) (s : Ins) : Nat → List Bl → Nat → Nat
  | _, [], acc => acc
  | i, x :: r, acc => secondFrom reached s (i + 1) r (if reached[i]? = some true ∧ x.ex.k = 4 then acc ||| drop (inAt s x.ex.els) x.ex.d else acc)
def second (bl : List Bl) (reached : List Bool) (s : Ins) : Nat := secondFrom reached s 0 bl 0
def ends (l : List Int) (x : Ex) (s : Ins) : Nat :=
  let m := l.foldl (fun acc k => acc ||| inAt s k) 0
  if x.k = 4 then drop m x.d else m
def back (m : Nat) (o : Op) (sec : Nat) : Nat :=
  let m1 := (readsOp o).foldl put (drop m o.d)
  if jumps o = true then m1 ||| sec else m1
def backs (sec : Nat) (ops : List Op) (m : Nat) : Nat := ops.foldr (fun o m => back m o sec) m
def point (l : List Int) (x : Bl) (s : Ins) (ops : Nat) (sec : Nat) : Nat := backs sec (x.ops.drop ops) ((exitRegs x.ex).foldl put (ends l x.ex s))
/-- one block of a pass -/
def visit (to : List (List Int)) (bl : List Bl) (reached : List Bool) (sec : Nat) (s : Ins × Bool) (b : Nat) : Ins × Bool :=
  match bl[b]?, to[b]? with
  | some x, some l => if reached[b]? = some true then (s.1.set b (inAt s.1 b ||| point l x s.1 0 sec), s.2 || decide (inAt s.1 b ||| point l x s.1 0 sec ≠ inAt s.1 b)) else s
  | _, _ => s
/-- the blocks k - 1 to 0 -/
def visits (to : List (List Int)) (bl : List Bl) (reached : List Bool) (sec : Nat) (s : Ins × Bool) (k : Nat) : Ins × Bool := ((List.range k).reverse).foldl (visit to bl reached sec) s
def pass (to : List (List Int)) (bl : List Bl) (reached : List Bool) (s : Ins) : Ins × Bool := visits to bl reached (second bl reached s) (s, false) bl.length
def passes (to : List (List Int)) (bl : List Bl) (reached : List Bool) : Nat → Ins → Ins
  | 0, s => s
  | k + 1, s => (pass to bl reached (passes to bl reached k s)).1
/-- what found has found -/
def Lives (to : List (List Int)) (bl : List Bl) (reached : List Bool) (s : Ins) : Prop := ∃ k, s = passes to bl reached k (List.replicate bl.length 0) ∧ pass to bl reached s = (s, false)
section
variable {to : List (List Int)} {bl : List Bl} {reached : List Bool} {sec : Nat}
theorem visits_succ (s : Ins × Bool) (k : Nat) : visits to bl reached sec s (k + 1) = visits to bl reached sec (visit to bl reached sec s k) k := by
  unfold visits
  rw [List.range_succ, List.reverse_append]
  rfl
theorem visit_length (s : Ins × Bool) (b : Nat) : (visit to bl reached sec s b).1.length = s.1.length := by
  unfold visit
  split
  · split <;> simp
  · rfl
theorem visits_length : ∀ (k : Nat) (s : Ins × Bool), (visits to bl reached sec s k).1.length = s.1.length
  | 0, s => rfl
  | k + 1, s => by rw [visits_succ, visits_length k, visit_length]
theorem pass_length (s : Ins) : (pass to bl reached s).1.length = s.length := by unfold pass; rw [visits_length]
theorem passes_length (k : Nat) (s : Ins) : (passes to bl reached k s).length = s.length := by
  induction k with
  | zero => rfl
  | succ k ih => rw [passes, pass_length, ih]
/-- not grown: nothing has changed -/
theorem visit_same {s : Ins × Bool} {b : Nat} (h : (visit to bl reached sec s b).2 = false) : visit to bl reached sec s b = s := by
  unfold visit at h ⊢
  split
  · rename_i x l hx hl
    rw [hx, hl] at h
    simp only at h
    split
    · rename_i hr
      rw [if_pos hr] at h
      simp only [Bool.or_eq_false_iff, decide_eq_false_iff_not, Decidable.not_not] at h
      rw [h.2, h.1]
      have : s.1.set b (inAt s.1 b) = s.1 := by
        unfold inAt
        rw [Int.toNat_natCast]
        apply List.ext_getElem? 
        intro i
        rw [List.getElem?_set]
        split
        · rename_i e
          subst e
          split
          · rename_i hl; rw [List.getElem?_eq_getElem hl]; rfl
          · rename_i hl; rw [List.getElem?_eq_none (by omega)]
        · rfl
      rw [this]
      have e := h.1
      cases s
      simp only at e
      rw [e]
      simp
    · rfl
  · rfl
theorem visit_grows (s : Ins × Bool) (b : Nat) (h : s.2 = true) : (visit to bl reached sec s b).2 = true := by
  unfold visit
  split
  · split
    · simp [h]
    · exact h
  · exact h
theorem visits_grows : ∀ (k : Nat) (s : Ins × Bool), s.2 = true → (visits to bl reached sec s k).2 = true
  | 0, s, h => h
  | k + 1, s, h => by rw [visits_succ]; exact visits_grows k _ (visit_grows s k h)
theorem visits_same : ∀ (k : Nat) (s : Ins × Bool), (visits to bl reached sec s k).2 = false → visits to bl reached sec s k = s
  | 0, s, _ => rfl
  | k + 1, s, h => by
    rw [visits_succ] at h ⊢
    have h1 : (visit to bl reached sec s k).2 = false := by
      cases hv : (visit to bl reached sec s k).2 with
      | false => rfl
      | true => rw [visits_grows k _ hv] at h; cases h
    have h2 := visit_same h1
    rw [h2] at h ⊢
    exact visits_same k s h
theorem pass_same {s : Ins} (h : (pass to bl reached s).2 = false) : pass to bl reached s = (s, false) := visits_same _ _ h
theorem passes_fix {s : Ins} (h : pass to bl reached s = (s, false)) : ∀ k, passes to bl reached k s = s
  | 0 => rfl
  | k + 1 => by rw [passes, passes_fix h k, h]
theorem passes_add (s : Ins) (j : Nat) : ∀ k, passes to bl reached (j + k) s = passes to bl reached k (passes to bl reached j s)
  | 0 => rfl
  | k + 1 => by rw [← Nat.add_assoc, passes, passes, passes_add s j k]
theorem Lives.unique {s t : Ins} (h : Lives to bl reached s) (k : Lives to bl reached t) : s = t := by
  obtain ⟨i, hs, fs⟩ := h
  obtain ⟨j, ht, ft⟩ := k
  rcases Nat.le_total i j with hij | hij
  · obtain ⟨d, rfl⟩ := Nat.exists_eq_add_of_le hij
    rw [ht, passes_add, ← hs, passes_fix fs]
  · obtain ⟨d, rfl⟩ := Nat.exists_eq_add_of_le hij
    rw [hs, passes_add, ← ht, passes_fix ft]
end
/-! bounds, and why the passes end -/
structure BlOk (r : Nat) (x : Bl) : Prop where
  regs : ∀ n ∈ exitRegs x.ex, 0 ≤ n ∧ n < r
  d : x.ex.d < r
  od : ∀ o ∈ x.ops, o.d < r
  reads : ∀ o ∈ x.ops, ∀ n ∈ readsOp o, 0 ≤ n ∧ n < r
def InsOk (r : Nat) (s : Ins) : Prop := ∀ m ∈ s, m < 2 ^ r
section
variable {r : Nat} {to : List (List Int)} {bl : List Bl} {reached : List Bool} {sec : Nat}
theorem inAt_lt {s : Ins} (h : InsOk r s) (k : Int) : inAt s k < 2 ^ r := by
  unfold inAt
  cases hk : s[k.toNat]? with
  | none => exact Nat.two_pow_pos r
  | some m => exact h m (List.mem_of_getElem? hk)
theorem puts_lt : ∀ (l : List Int) (m : Nat), m < 2 ^ r → (∀ n ∈ l, 0 ≤ n ∧ n < r) → l.foldl put m < 2 ^ r
  | [], m, h, _ => h
  | n :: l, m, h, hl => puts_lt l _ (put_lt h (hl n (List.mem_cons_self ..)).2 (hl n (List.mem_cons_self ..)).1) (fun k hk => hl k (List.mem_cons_of_mem _ hk))
theorem joins_lt {s : Ins} (hs : InsOk r s) : ∀ (l : List Int) (m : Nat), m < 2 ^ r → l.foldl (fun acc k => acc ||| inAt s k) m < 2 ^ r
  | [], m, h => h
  | n :: l, m, h => joins_lt hs l _ (join_lt h (inAt_lt hs n))
theorem ends_lt {s : Ins} (hs : InsOk r s) (l : List Int) (x : Ex) : ends l x s < 2 ^ r := by
  unfold ends
  have := joins_lt hs l 0 (Nat.two_pow_pos r)
  simp only
  split
  · exact drop_lt this
  · exact this
theorem back_lt {m : Nat} (hm : m < 2 ^ r) (o : Op) (ho : ∀ n ∈ readsOp o, 0 ≤ n ∧ n < r) (hsec : sec < 2 ^ r) : back m o sec < 2 ^ r := by
  unfold back
  have := puts_lt (readsOp o) _ (drop_lt (n := o.d) hm) ho
  simp only
  split
  · exact join_lt this hsec
  · exact this
theorem backs_lt (hsec : sec < 2 ^ r) : ∀ (ops : List Op) (m : Nat), m < 2 ^ r → (∀ o ∈ ops, ∀ n ∈ readsOp o, 0 ≤ n ∧ n < r) → backs sec ops m < 2 ^ r
  | [], m, h, _ => h
  | o :: l, m, h, ho => back_lt (backs_lt hsec l m h (fun p hp => ho p (List.mem_cons_of_mem _ hp))) o (ho o (List.mem_cons_self ..)) hsec
theorem point_lt {s : Ins} (hs : InsOk r s) (hsec : sec < 2 ^ r) (l : List Int) {x : Bl} (hx : BlOk r x) (n : Nat) : point l x s n sec < 2 ^ r :=
  backs_lt hsec _ _ (puts_lt _ _ (ends_lt hs l x.ex) hx.regs) (fun o ho => hx.reads o (List.mem_of_mem_drop ho))
theorem secondFrom_lt {s : Ins} (hs : InsOk r s) : ∀ (l : List Bl) (i acc : Nat), acc < 2 ^ r → secondFrom reached s i l acc < 2 ^ r
  | [], _, acc, h => h
  | x :: l, i, acc, h => secondFrom_lt hs l (i + 1) _ (by
    split
    · exact join_lt h (drop_lt (inAt_lt hs _))
    · exact h)
theorem second_lt {s : Ins} (hs : InsOk r s) : second bl reached s < 2 ^ r := secondFrom_lt hs bl 0 0 (Nat.two_pow_pos r)
theorem set_ok {s : Ins} (hs : InsOk r s) (b : Nat) {v : Nat} (hv : v < 2 ^ r) : InsOk r (s.set b v) := fun m hm => by
  rcases List.mem_or_eq_of_mem_set hm with h | rfl
  · exact hs m h
  · exact hv
/-- what is left to grow -/
def left (M : Nat) (s : Ins) : Nat := (s.map (M - ·)).sum
theorem left_set {M : Nat} : ∀ (s : Ins) (b v : Nat) (hb : b < s.length), s[b] ≤ v → v ≤ M → left M (s.set b v) ≤ left M s ∧ (s[b] < v → left M (s.set b v) < left M s)
  | [], b, v, hb, _, _ => by simp at hb
  | m :: s, 0, v, hb, h, hM => by
    simp only [List.getElem_cons_zero] at h
    simp only [List.set_cons_zero, left, List.map_cons, List.sum_cons, List.getElem_cons_zero]
    exact ⟨by omega, fun hlt => by omega⟩
  | m :: s, b + 1, v, hb, h, hM => by
    have hb' : b < s.length := by simpa using hb
    have ih := left_set s b v hb' (by simpa using h) hM
    simp only [List.set_cons_succ, left, List.map_cons, List.sum_cons, List.getElem_cons_succ] at ih ⊢
    exact ⟨by omega, fun hlt => by have := ih.2 hlt; omega⟩
structure VisOk (r : Nat) (n : Nat) (s t : Ins × Bool) : Prop where
  ok : InsOk r t.1
  len : t.1.length = n
  le : left (2 ^ r) t.1 ≤ left (2 ^ r) s.1
  lt : t.2 = true → s.2 = true ∨ left (2 ^ r) t.1 < left (2 ^ r) s.1
theorem visit_ok (hbl : ∀ x ∈ bl, BlOk r x) (hsec : sec < 2 ^ r) {s : Ins × Bool} (hs : InsOk r s.1) (hl : s.1.length = bl.length) (b : Nat) : VisOk r bl.length s (visit to bl reached sec s b) := by
  unfold visit
  split
  · rename_i x l hx hlb
    split
    · have hb : b < bl.length := (List.getElem?_eq_some_iff.1 hx).1
      have hb1 : b < s.1.length := by omega
      have hp := point_lt hs hsec l (hbl x (List.mem_of_getElem? hx)) 0
      have hv : inAt s.1 b ||| point l x s.1 0 sec < 2 ^ r := join_lt (inAt_lt hs _) hp
      have hi : inAt s.1 (b : Int) = s.1[b] := by unfold inAt; rw [Int.toNat_natCast, List.getElem?_eq_getElem hb1]; rfl
      have h1 := left_set (M := 2 ^ r) s.1 b (inAt s.1 b ||| point l x s.1 0 sec) hb1 (by rw [hi]; exact Nat.left_le_or) (Nat.le_of_lt hv)
      refine ⟨set_ok hs b hv, by simpa using hl, h1.1, fun ht => ?_⟩
      simp only [Bool.or_eq_true, decide_eq_true_eq] at ht
      rcases ht with ht | ht
      · exact .inl ht
      · refine .inr (h1.2 ?_)
        have : s.1[b] ≤ inAt s.1 b ||| point l x s.1 0 sec := by rw [hi]; exact Nat.left_le_or
        rw [hi] at ht this ⊢
        omega
    · exact ⟨hs, hl, Nat.le_refl _, fun h => .inl h⟩
  · exact ⟨hs, hl, Nat.le_refl _, fun h => .inl h⟩
theorem VisOk.trans {n : Nat} {s t u : Ins × Bool} (h : VisOk r n s t) (k : VisOk r n t u) : VisOk r n s u :=
  ⟨k.ok, k.len, Nat.le_trans k.le h.le, fun hu => by
    rcases k.lt hu with h1 | h1
    · rcases h.lt h1 with h2 | h2
      · exact .inl h2
      · exact .inr (Nat.lt_of_le_of_lt k.le h2)
    · exact .inr (Nat.lt_of_lt_of_le h1 h.le)⟩
theorem visits_ok (hbl : ∀ x ∈ bl, BlOk r x) (hsec : sec < 2 ^ r) : ∀ (k : Nat) {s : Ins × Bool}, InsOk r s.1 → s.1.length = bl.length → VisOk r bl.length s (visits to bl reached sec s k)
  | 0, s, hs, hl => ⟨hs, hl, Nat.le_refl _, fun h => .inl h⟩
  | k + 1, s, hs, hl => by
    rw [visits_succ]
    have h1 := visit_ok (to := to) (reached := reached) hbl hsec hs hl k
    exact h1.trans (visits_ok hbl hsec k h1.ok h1.len)
theorem pass_ok (hbl : ∀ x ∈ bl, BlOk r x) {s : Ins} (hs : InsOk r s) (hl : s.length = bl.length) : VisOk r bl.length (s, false) (pass to bl reached s) := visits_ok hbl (second_lt hs) _ hs hl
theorem zeros_ok (n : Nat) : InsOk r (List.replicate n 0) := fun m hm => by
  rw [List.eq_of_mem_replicate hm]
  exact Nat.two_pow_pos r
theorem passes_ok (hbl : ∀ x ∈ bl, BlOk r x) : ∀ k, InsOk r (passes to bl reached k (List.replicate bl.length 0)) ∧ (passes to bl reached k (List.replicate bl.length 0)).length = bl.length
  | 0 => ⟨zeros_ok _, by simp [passes]⟩
  | k + 1 => by
    have ih := passes_ok hbl k
    have := pass_ok (to := to) (reached := reached) hbl ih.1 ih.2
    exact ⟨this.ok, this.len⟩
theorem Lives.ok (hbl : ∀ x ∈ bl, BlOk r x) {s : Ins} (h : Lives to bl reached s) : InsOk r s ∧ s.length = bl.length := by
  obtain ⟨k, rfl, _⟩ := h
  exact passes_ok hbl k
end
/-! what is live at a second entry is live ahead of each call that may jump -/
theorem back_jumps {m : Nat} {o : Op} {sec : Nat} (h : jumps o = true) : Sub sec (back m o sec) := by
  unfold back
  simp only [h, if_true]
  exact sub_right _ _
theorem point_jumps {l : List Int} {x : Bl} {s : Ins} {i sec : Nat} {o : Op} (ho : x.ops[i]? = some o) (h : jumps o = true) : Sub sec (point l x s i sec) := by
  obtain ⟨hi, rfl⟩ := List.getElem?_eq_some_iff.1 ho
  unfold point backs
  rw [List.drop_eq_getElem_cons hi, List.foldr_cons]
  exact back_jumps h
/-! what is live is read somewhere -/
def Within (R : Nat → Prop) (m : Nat) : Prop := ∀ j, m.testBit j = true → R j
def ReadIn (bl : List Bl) (j : Nat) : Prop := ∃ x ∈ bl, (∃ n ∈ exitRegs x.ex, n.toNat = j) ∨ ∃ o ∈ x.ops, ∃ n ∈ readsOp o, n.toNat = j
section
variable {R : Nat → Prop} {r : Nat} {to : List (List Int)} {bl : List Bl} {reached : List Bool} {sec : Nat}
theorem Within.zero : Within R 0 := fun j h => by simp at h
theorem Within.join {a b : Nat} (h : Within R a) (k : Within R b) : Within R (a ||| b) := fun j hj => by
  rw [Nat.testBit_or, Bool.or_eq_true] at hj
  rcases hj with hj | hj
  · exact h j hj
  · exact k j hj
theorem Within.put {m : Nat} {n : Int} (h : Within R m) (hn : R n.toNat) : Within R (put m n) := fun j hj => by
  rw [bit_put, Bool.or_eq_true] at hj
  rcases hj with hj | hj
  · exact h j hj
  · rw [← of_decide_eq_true hj]; exact hn
theorem Within.drop {m : Nat} (h : Within R m) (n : Int) : Within R (drop m n) := fun j hj => by
  unfold fl.drop at hj
  split at hj
  · rw [Nat.testBit_and, Bool.and_eq_true] at hj
    exact h j hj.1
  · exact h j hj
theorem Within.puts : ∀ (l : List Int) (m : Nat), Within R m → (∀ n ∈ l, R n.toNat) → Within R (l.foldl fl.put m)
  | [], m, h, _ => h
  | n :: l, m, h, hl => Within.puts l _ (h.put (hl n (List.mem_cons_self ..))) (fun k hk => hl k (List.mem_cons_of_mem _ hk))
def InsIn (R : Nat → Prop) (s : Ins) : Prop := ∀ m ∈ s, Within R m
theorem inAt_in {s : Ins} (h : InsIn R s) (k : Int) : Within R (inAt s k) := by
  unfold inAt
  cases hk : s[k.toNat]? with
  | none => exact Within.zero
  | some m => exact h m (List.mem_of_getElem? hk)
theorem joins_in {s : Ins} (hs : InsIn R s) : ∀ (l : List Int) (m : Nat), Within R m → Within R (l.foldl (fun acc k => acc ||| inAt s k) m)
  | [], m, h => h
  | n :: l, m, h => joins_in hs l _ (h.join (inAt_in hs n))
theorem ends_in {s : Ins} (hs : InsIn R s) (l : List Int) (x : Ex) : Within R (ends l x s) := by
  unfold ends
  have := joins_in hs l 0 Within.zero
  simp only
  split
  · exact this.drop _
  · exact this
theorem back_in {m : Nat} (hm : Within R m) (o : Op) (ho : ∀ n ∈ readsOp o, R n.toNat) (hsec : Within R sec) : Within R (back m o sec) := by
  unfold back
  have := Within.puts (readsOp o) _ (hm.drop o.d) ho
  simp only
  split
  · exact this.join hsec
  · exact this
theorem backs_in (hsec : Within R sec) : ∀ (ops : List Op) (m : Nat), Within R m → (∀ o ∈ ops, ∀ n ∈ readsOp o, R n.toNat) → Within R (backs sec ops m)
  | [], m, h, _ => h
  | o :: l, m, h, ho => back_in (backs_in hsec l m h (fun p hp => ho p (List.mem_cons_of_mem _ hp))) o (ho o (List.mem_cons_self ..)) hsec
theorem point_in {s : Ins} (hs : InsIn (ReadIn bl) s) (hsec : Within (ReadIn bl) sec) (l : List Int) {x : Bl} (hx : x ∈ bl) (n : Nat) : Within (ReadIn bl) (point l x s n sec) :=
  backs_in hsec _ _ (Within.puts _ _ (ends_in hs l x.ex) (fun m hm => ⟨x, hx, .inl ⟨m, hm, rfl⟩⟩)) (fun o ho m hm => ⟨x, hx, .inr ⟨o, List.mem_of_mem_drop ho, m, hm, rfl⟩⟩)
theorem secondFrom_in {s : Ins} (hs : InsIn R s) : ∀ (l : List Bl) (i acc : Nat), Within R acc → Within R (secondFrom reached s i l acc)
  | [], _, acc, h => h
  | x :: l, i, acc, h => secondFrom_in hs l (i + 1) _ (by
    split
    · exact h.join ((inAt_in hs _).drop _)
    · exact h)
theorem set_in {s : Ins} (hs : InsIn R s) (b : Nat) {v : Nat} (hv : Within R v) : InsIn R (s.set b v) := fun m hm => by
  rcases List.mem_or_eq_of_mem_set hm with h | rfl
  · exact hs m h
  · exact hv
theorem visit_in (hsec : Within (ReadIn bl) sec) {s : Ins × Bool} (hs : InsIn (ReadIn bl) s.1) (b : Nat) : InsIn (ReadIn bl) (visit to bl reached sec s b).1 := by
  unfold visit
  split
  · rename_i x l hx hlb
    split
    · exact set_in hs b ((inAt_in hs _).join (point_in hs hsec l (List.mem_of_getElem? hx) 0))
    · exact hs
  · exact hs
theorem visits_in (hsec : Within (ReadIn bl) sec) : ∀ (k : Nat) {s : Ins × Bool}, InsIn (ReadIn bl) s.1 → InsIn (ReadIn bl) (visits to bl reached sec s k).1
  | 0, s, hs => hs
  | k + 1, s, hs => by
    rw [visits_succ]
    exact visits_in hsec k (visit_in hsec hs k)
theorem passes_in : ∀ k, InsIn (ReadIn bl) (passes to bl reached k (List.replicate bl.length 0))
  | 0 => fun m hm => by rw [List.eq_of_mem_replicate hm]; exact Within.zero
  | k + 1 => visits_in (secondFrom_in (passes_in k) bl 0 0 Within.zero) _ (passes_in k)
theorem Lives.within {s : Ins} (h : Lives to bl reached s) : InsIn (ReadIn bl) s := by
  obtain ⟨k, rfl, _⟩ := h
  exact passes_in k
end
end Go.Proofs.YthgbmhpfblgjcaaGreatDoor.fl
