/-
  Plain laws of the codes of types: which texts are codes, and that a text has at most one code at its head. No program in sight.
-/
import Derived.WalkKit
namespace Go.Proofs.YtejhphnlickjlaaDoor.T
set_option linter.unusedVariables false
def baseC (c : Int) : Bool := decide (c = 118 ∨ c = 99 ∨ c = 115 ∨ c = 105 ∨ c = 117 ∨ c = 106)
def isDigit (c : Int) : Bool := decide (48 ≤ c ∧ c ≤ 57)
def isLetter (c : Int) : Bool := decide ((97 ≤ c ∧ c ≤ 122) ∨ (65 ≤ c ∧ c ≤ 90) ∨ c = 95)
def numOf (d : List Int) : Int := d.foldl (fun n c => 10 * n + (c - 48)) 0
/-- digits: 0 itself, or without a 0 ahead, at most 15, at most the greatest number -/
def whole (d : List Int) : Bool := decide (d ≠ [] ∧ d.length ≤ 15 ∧ (1 < d.length → d.head? ≠ some 48) ∧ (∀ c ∈ d, isDigit c = true) ∧ numOf d ≤ 1099511627776)
def keys : List (List Int) := [[118, 111, 105, 100], [99, 104, 97, 114], [115, 104, 111, 114, 116], [105, 110, 116], [117, 110, 115, 105, 103, 110, 101, 100], [115, 116, 114, 117, 99, 116], [118, 111, 108, 97, 116, 105, 108, 101], [105, 102], [101, 108, 115, 101], [119, 104, 105, 108, 101], [100, 111], [102, 111, 114], [115, 119, 105, 116, 99, 104], [99, 97, 115, 101], [100, 101, 102, 97, 117, 108, 116], [98, 114, 101, 97, 107], [99, 111, 110, 116, 105, 110, 117, 101], [114, 101, 116, 117, 114, 110], [115, 105, 122, 101, 111, 102], [106, 109, 112, 95, 98, 117, 102]]
def wordB (w : List Int) : Bool := match w with | [] => false | c :: r => isLetter c && r.all fun c => isLetter c || isDigit c
def nameB (w : List Int) : Bool := decide (w.length ≤ 31) && wordB w && !keys.contains w
/-- false: a type's code stands at the head of l, and r is behind it; true: parameters and the bracket behind them -/
inductive Ty : Bool → List Int → List Int → Prop where
  | base {c : Int} {r : List Int} : baseC c = true → Ty false (c :: r) r
  | ptr {l r : List Int} : Ty false l r → Ty false (112 :: l) r
  | arr {d l r : List Int} : whole d = true → Ty false l r → Ty false (97 :: (d ++ 58 :: l)) r
  | struct {w r : List Int} : nameB w = true → Ty false (83 :: (w ++ 59 :: r)) r
  | fn0 {l r : List Int} : Ty false l r → Ty false (102 :: 40 :: 41 :: l) r
  | fn {l m r : List Int} : Ty true l m → Ty false m r → Ty false (102 :: 40 :: l) r
  | one {l r : List Int} : Ty false l (41 :: r) → Ty true l r
  | more {l m r : List Int} : Ty false l (44 :: m) → Ty true m r → Ty true l r
theorem split_unique {c : Int} {a b x y : List Int} (ha : ∀ z ∈ a, z ≠ c) (hb : ∀ z ∈ b, z ≠ c) (h : a ++ c :: x = b ++ c :: y) : a = b ∧ x = y := by
  induction a generalizing b with
  | nil =>
    cases b with
    | nil => simpa using h
    | cons z b => simp at h; exact absurd h.1.symm (hb z (by simp))
  | cons w a ih =>
    cases b with
    | nil => simp at h; exact absurd h.1 (ha w (by simp))
    | cons z b =>
      rw [List.cons_append, List.cons_append, List.cons.injEq] at h
      obtain ⟨h1, h2⟩ := ih (fun z hz => ha z (by simp [hz])) (fun z hz => hb z (by simp [hz])) h.2
      exact ⟨by rw [h.1, h1], h2⟩
theorem whole_digit {d : List Int} (h : whole d = true) : ∀ z ∈ d, z ≠ 58 := by
  intro z hz e
  have := (of_decide_eq_true h).2.2.2.1 z hz
  subst e
  revert this; decide
theorem name_letters {w : List Int} (h : nameB w = true) : ∀ z ∈ w, (isLetter z || isDigit z) = true := by
  intro z hz
  simp only [nameB, Bool.and_eq_true] at h
  have h2 := h.1.2
  cases w with
  | nil => cases hz
  | cons c r =>
    simp only [wordB, Bool.and_eq_true] at h2
    rcases List.mem_cons.1 hz with rfl | h3
    · rw [h2.1]; rfl
    · exact List.all_eq_true.1 h2.2 z h3
theorem name_semi {w : List Int} (h : nameB w = true) : ∀ z ∈ w, z ≠ 59 := by
  intro z hz e
  have := name_letters h z hz
  subst e
  revert this; decide
theorem Ty.ne {b : Bool} {l r : List Int} (h : Ty b l r) : l ≠ [] := by
  induction h with
  | one _ ih => exact ih
  | more _ _ ih _ => exact ih
  | _ => simp
/-- a type's code begins with no bracket -/
theorem Ty.head {b : Bool} {l r : List Int} (h : Ty b l r) : ∀ x, l ≠ 41 :: x := by
  induction h with
  | base hc => rintro x e; injection e with e; subst e; exact absurd hc (by decide)
  | ptr _ _ => simp
  | arr _ _ _ => simp
  | struct _ => simp
  | fn0 _ _ => simp
  | fn _ _ _ _ => simp
  | one _ ih => exact ih
  | more _ _ ih _ => exact ih
theorem ty_ptr {l r : List Int} (h : Ty false (112 :: l) r) : Ty false l r := by
  generalize e : (112 :: l : List Int) = m at h
  cases h with
  | base hc => injection e with e; subst e; exact absurd hc (by decide)
  | ptr h => injection e with _ e; subst e; exact h
  | _ => simp at e
theorem ty_arr {l r : List Int} (h : Ty false (97 :: l) r) : ∃ d m, l = d ++ 58 :: m ∧ whole d = true ∧ Ty false m r := by
  generalize e : (97 :: l : List Int) = k at h
  cases h with
  | base hc => injection e with e; subst e; exact absurd hc (by decide)
  | arr hd h => injection e with _ e; exact ⟨_, _, e, hd, h⟩
  | _ => simp at e
theorem ty_struct {l r : List Int} (h : Ty false (83 :: l) r) : ∃ w, l = w ++ 59 :: r ∧ nameB w = true := by
  generalize e : (83 :: l : List Int) = k at h
  cases h with
  | base hc => injection e with e; subst e; exact absurd hc (by decide)
  | struct hd => injection e with _ e; exact ⟨_, e, hd⟩
  | _ => simp at e
theorem ty_fn {l r : List Int} (h : Ty false (102 :: l) r) : ∃ x, l = 40 :: x ∧ ((∃ m, x = 41 :: m ∧ Ty false m r) ∨ (∃ m, Ty true x m ∧ Ty false m r)) := by
  generalize e : (102 :: l : List Int) = k at h
  cases h with
  | base hc => injection e with e; subst e; exact absurd hc (by decide)
  | fn0 h => injection e with _ e; exact ⟨_, e, .inl ⟨_, rfl, h⟩⟩
  | fn h1 h2 => injection e with _ e; exact ⟨_, e, .inr ⟨_, h1, h2⟩⟩
  | _ => simp at e
theorem ty_base {c : Int} {l r : List Int} (hc : baseC c = true) (h : Ty false (c :: l) r) : r = l := by
  generalize e : (c :: l : List Int) = k at h
  cases h with
  | base _ => injection e with _ e; exact e.symm
  | ptr h => injection e with e; subst e; exact absurd hc (by decide)
  | arr _ _ => injection e with e; subst e; exact absurd hc (by decide)
  | struct _ => injection e with e; subst e; exact absurd hc (by decide)
  | fn0 h => injection e with e; subst e; exact absurd hc (by decide)
  | fn _ _ => injection e with e; subst e; exact absurd hc (by decide)
theorem ty_other {c : Int} {l r : List Int} (hc : baseC c = false) (h1 : c ≠ 112) (h2 : c ≠ 97) (h3 : c ≠ 83) (h4 : c ≠ 102) : ¬ Ty false (c :: l) r := by
  intro h
  generalize e : (c :: l : List Int) = k at h
  cases h with
  | base hc' => injection e with e; subst e; rw [hc] at hc'; cases hc'
  | ptr h => injection e with e; exact h1 e
  | arr _ _ => injection e with e; exact h2 e
  | struct _ => injection e with e; exact h3 e
  | fn0 h => injection e with e; exact h4 e
  | fn _ _ => injection e with e; exact h4 e
theorem ty_params {l r : List Int} (h : Ty true l r) : Ty false l (41 :: r) ∨ ∃ m, Ty false l (44 :: m) ∧ Ty true m r := by
  cases h with
  | one h => exact .inl h
  | more h1 h2 => exact .inr ⟨_, h1, h2⟩
theorem Ty.unique {b : Bool} {l r : List Int} (h : Ty b l r) : ∀ r', Ty b l r' → r = r' := by
  induction h with
  | base hc => exact fun r' h' => (ty_base hc h').symm
  | ptr _ ih => exact fun r' h' => ih r' (ty_ptr h')
  | arr hd _ ih =>
    intro r' h'
    obtain ⟨d', m, e, hd', hm⟩ := ty_arr h'
    obtain ⟨_, e2⟩ := split_unique (whole_digit hd) (whole_digit hd') e
    subst e2
    exact ih r' hm
  | struct hn =>
    intro r' h'
    obtain ⟨w', e, hn'⟩ := ty_struct h'
    exact (split_unique (name_semi hn) (name_semi hn') e).2
  | fn0 _ ih =>
    intro r' h'
    obtain ⟨x, e, hx⟩ := ty_fn h'
    injection e with _ e
    subst e
    rcases hx with ⟨m, e, hm⟩ | ⟨m, hm, _⟩
    · injection e with _ e; subst e; exact ih r' hm
    · exact absurd rfl (hm.head _)
  | fn h1 _ ih1 ih2 =>
    intro r' h'
    obtain ⟨x, e, hx⟩ := ty_fn h'
    injection e with _ e
    subst e
    rcases hx with ⟨m, e, hm⟩ | ⟨m, hm, hm2⟩
    · subst e; exact absurd rfl (h1.head _)
    · have := ih1 m hm
      subst this
      exact ih2 r' hm2
  | one _ ih =>
    intro r' h'
    rcases ty_params h' with h2 | ⟨m, h2, h3⟩
    · have := ih _ h2; injection this
    · have := ih _ h2; injection this with e _; exact absurd e (by decide)
  | more _ _ ih1 ih2 =>
    intro r' h'
    rcases ty_params h' with h2 | ⟨m, h2, h3⟩
    · have := ih1 _ h2; injection this with e _; exact absurd e (by decide)
    · have := ih1 _ h2
      injection this with _ e
      subst e
      exact ih2 _ h3
theorem Ty.shorter {b : Bool} {l r : List Int} (h : Ty b l r) : r.length < l.length := by
  induction h with
  | base _ => simp
  | ptr _ ih => simp; omega
  | arr _ _ ih => simp; omega
  | struct _ => simp; omega
  | fn0 _ ih => simp; omega
  | fn _ _ ih1 ih2 => simp; omega
  | one _ ih => simp at ih; omega
  | more _ _ ih1 ih2 => simp at ih1; omega
end Go.Proofs.YtejhphnlickjlaaDoor.T
