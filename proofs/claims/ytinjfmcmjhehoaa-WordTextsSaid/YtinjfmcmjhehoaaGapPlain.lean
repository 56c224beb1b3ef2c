/-
  Plain laws on lists of gaps: what taking and giving back come to, as functions on lists of pairs of integers. No program in sight.
-/
import Derived.WalkKit
namespace Go.Proofs.Ytinjfmcmjhehoaa.G
set_option linter.unusedVariables false

/-- where a gap begins, and its size -/
abbrev Gap := Int × Int

def okTotal (t : Int) : Bool := decide (0 ≤ t ∧ t ≤ 16777216 ∧ t % 16 = 0)
def newE (t : Int) : Int := if okTotal t then 0 else 1
def newL (t : Int) : List Gap := if okTotal t && decide (t ≠ 0) then [(0, t)] else []
def grainB (t : Int) (g : Gap) : Bool := decide (0 ≤ g.1 ∧ g.1 ≤ t ∧ 0 < g.2 ∧ g.2 ≤ t - g.1 ∧ g.1 % 16 = 0 ∧ g.2 % 16 = 0)
def chk (t : Int) : Int → List Gap → Bool
  | _, [] => true
  | e, g :: r => grainB t g && decide (e < g.1) && chk t (g.1 + g.2) r
def checkE (t : Int) (l : List Gap) : Int := if okTotal t then (if 4096 < l.length then 3 else if chk t (-1) l then 0 else 5) else 1
def up (n : Int) : Int := (n + 15) / 16 * 16
def sizeOk (n : Int) : Bool := decide (1 ≤ n ∧ n ≤ 16777216)

/-- the place of the first gap that is great enough; the length: there is none -/
def first (l : List Gap) (n : Int) : Nat := l.findIdx fun g => decide (n ≤ g.2)
def left (g : Gap) (n : Int) : List Gap := if n < g.2 then [(g.1 + n, g.2 - n)] else []
def takeL (l : List Gap) (n : Int) (k : Nat) : List Gap := l.take k ++ left (l.getD k (0, 0)) n ++ l.drop (k + 1)

/-- what Take answers: the list, the place, the error -/
def takeA (t : Int) (l : List Gap) (n : Int) : List Gap × Int × Int :=
  if checkE t l ≠ 0 then ([], 0, checkE t l)
  else if sizeOk n then
    (if first l (up n) < l.length then (takeL l (up n) (first l (up n)), (l.getD (first l (up n)) (0, 0)).1, 0) else ([], 0, 4))
  else ([], 0, 1)

def touches (a b : Gap) : Bool := decide (a.1 + a.2 = b.1)
def joined (l : List Gap) (g : Gap) : List Gap :=
  match l.getLast? with
  | some x => if x.1 + x.2 = g.1 then l.dropLast ++ [(x.1, x.2 + g.2)] else l ++ [g]
  | none => [g]
def behind (l : List Gap) (g : Gap) : Nat := l.findIdx fun o => decide (g.1 < o.1)
def giveL (l : List Gap) (g : Gap) : List Gap :=
  match l.drop (behind l g) with
  | [] => joined (l.take (behind l g)) g
  | r :: rs => joined (joined (l.take (behind l g)) g) r ++ rs
def meets (g o : Gap) : Bool := decide (o.1 < g.1 + g.2 ∧ g.1 < o.1 + o.2)
def giveA (t : Int) (l : List Gap) (g : Gap) : List Gap × Int :=
  if checkE t l ≠ 0 then ([], checkE t l)
  else if sizeOk g.2 then
    (if grainB t (g.1, up g.2) && !l.any (meets (g.1, up g.2)) then (giveL l (g.1, up g.2), 0) else ([], 160))
  else ([], 1)

theorem up_bd (n : Int) (h1 : 1 ≤ n) (h2 : n ≤ 16777216) : 16 ≤ up n ∧ up n ≤ 16777216 ∧ up n % 16 = 0 ∧ n ≤ up n := by unfold up; omega
theorem chk_cons (t e : Int) (g : Gap) (r : List Gap) : chk t e (g :: r) = (grainB t g && decide (e < g.1) && chk t (g.1 + g.2) r) := rfl
theorem okTotal_bd {t : Int} (h : okTotal t = true) : 0 ≤ t ∧ t ≤ 16777216 ∧ t % 16 = 0 := by unfold okTotal at h; exact of_decide_eq_true h
theorem grain_bd {t : Int} {g : Gap} (h : grainB t g = true) : 0 ≤ g.1 ∧ g.1 ≤ t ∧ 0 < g.2 ∧ g.2 ≤ t - g.1 ∧ g.1 % 16 = 0 ∧ g.2 % 16 = 0 := of_decide_eq_true h
theorem drop_cons {α : Type} (l : List α) (k : Nat) (h : k < l.length) : l.drop k = l[k] :: l.drop (k + 1) := List.drop_eq_getElem_cons h
theorem chk_at {t : Int} {l : List Gap} {k : Nat} {e : Int} (h : k < l.length) : chk t e (l.drop k) = (grainB t l[k] && decide (e < l[k].1) && chk t (l[k].1 + l[k].2) (l.drop (k + 1))) := by
  rw [drop_cons l k h, chk_cons]
theorem chk_bounds {t : Int} : ∀ {l : List Gap} {e : Int}, chk t e l = true → ∀ g ∈ l, grainB t g = true
  | [], _, _, _, h => by cases h
  | g :: r, e, h, x, hx => by
    rw [chk_cons] at h
    simp only [Bool.and_eq_true] at h
    rcases List.mem_cons.1 hx with rfl | hx
    · exact h.1.1
    · exact chk_bounds h.2 x hx

/-! ### giving back, gap by gap -/
theorem joined_nil (g : Gap) : joined [] g = [g] := rfl
theorem joined_snoc (l : List Gap) (x g : Gap) : joined (l ++ [x]) g = if x.1 + x.2 = g.1 then l ++ [(x.1, x.2 + g.2)] else l ++ [x, g] := by
  unfold joined
  simp only [List.getLast?_concat, List.dropLast_concat]
  split <;> simp

/-- what the reference goes through: all gaps joined, the one that is given back among them -/
def folded (l : List Gap) (g : Gap) : List Gap :=
  let k := behind l g
  if k < l.length then (l.drop k).foldl joined (joined ((l.take k).foldl joined []) g) else joined (l.foldl joined []) g

theorem chk_append {t : Int} : ∀ {a b : List Gap} {e : Int}, chk t e (a ++ b) = true → chk t e a = true
  | [], _, _, _ => rfl
  | g :: r, b, e, h => by
    rw [List.cons_append, chk_cons] at h
    rw [chk_cons]
    simp only [Bool.and_eq_true] at h ⊢
    exact ⟨h.1, chk_append h.2⟩

/-- gaps that do not touch are joined to themselves -/
theorem foldl_joined {t : Int} : ∀ (l : List Gap) (acc : List Gap) (x : Gap) (e : Int), x.1 + x.2 ≤ e → chk t e l = true → l.foldl joined (acc ++ [x]) = acc ++ [x] ++ l
  | [], acc, x, e, _, _ => by simp
  | g :: r, acc, x, e, he, h => by
    rw [chk_cons] at h
    simp only [Bool.and_eq_true, decide_eq_true_eq] at h
    rw [List.foldl_cons, joined_snoc, if_neg (by omega)]
    have := foldl_joined (t := t) r (acc ++ [x]) g (g.1 + g.2) (Int.le_refl _) h.2
    simp only [List.append_assoc, List.cons_append, List.nil_append] at this ⊢
    exact this
theorem foldl_joined_nil {t : Int} (l : List Gap) (e : Int) (h : chk t e l = true) : l.foldl joined [] = l := by
  cases l with
  | nil => rfl
  | cons g r =>
    rw [chk_cons] at h
    simp only [Bool.and_eq_true, decide_eq_true_eq] at h
    rw [List.foldl_cons, joined_nil]
    have := foldl_joined (t := t) r [] g (g.1 + g.2) (Int.le_refl _) h.2
    simpa using this
theorem joined_last (l : List Gap) (g : Gap) : ∃ a x, joined l g = a ++ [x] ∧ x.1 + x.2 = g.1 + g.2 := by
  rcases List.eq_nil_or_concat l with rfl | ⟨a, x, rfl⟩
  · exact ⟨[], g, rfl, rfl⟩
  · rw [List.concat_eq_append, joined_snoc]
    split
    · rename_i h; exact ⟨a, _, rfl, by simp only; omega⟩
    · exact ⟨a ++ [x], g, by simp, rfl⟩
theorem chk_drop {t : Int} : ∀ (k : Nat) {l : List Gap} {e : Int}, chk t e l = true → ∃ e', chk t e' (l.drop k) = true
  | 0, l, e, h => ⟨e, h⟩
  | k + 1, [], e, h => ⟨e, by simp [chk]⟩
  | k + 1, g :: r, e, h => by
    rw [chk_cons] at h
    simp only [Bool.and_eq_true] at h
    exact chk_drop k h.2
theorem folded_eq {t : Int} (l : List Gap) (g : Gap) (e : Int) (h : chk t e l = true) : folded l g = giveL l g := by
  unfold folded giveL
  simp only
  have ht : chk t e (l.take (behind l g)) = true := chk_append (b := l.drop (behind l g)) (by rw [List.take_append_drop]; exact h)
  obtain ⟨e', hd⟩ := chk_drop (behind l g) h
  split
  · rw [foldl_joined_nil _ _ ht]
    cases hc : l.drop (behind l g) with
    | nil => rfl
    | cons r rs =>
      rw [hc, chk_cons] at hd
      simp only [Bool.and_eq_true] at hd
      obtain ⟨a, x, ha, hx⟩ := joined_last (joined (l.take (behind l g)) g) r
      simp only [List.foldl_cons]
      rw [ha, foldl_joined rs a x (r.1 + r.2) (by omega) hd.2]
  · rename_i hk
    have hd0 : l.drop (behind l g) = [] := List.drop_eq_nil_of_le (by omega)
    rw [hd0]
    rw [foldl_joined_nil _ _ h, List.take_of_length_le (by omega)]

/-! ### what is free, what is taken -/
def sum (l : List Gap) : Int := (l.map (·.2)).foldr (· + ·) 0
def great (l : List Gap) : Int := l.foldl (fun m g => max m g.2) 0
def takenF : Int → List Gap → List Gap → Int × List Gap
  | at_, out, [] => (at_, out)
  | at_, out, g :: r => takenF (g.1 + g.2) (if at_ < g.1 then out ++ [(at_, g.1 - at_)] else out) r
def taken (t : Int) (l : List Gap) : List Gap :=
  let r := takenF 0 [] l
  if r.1 < t then r.2 ++ [(r.1, t - r.1)] else r.2
def freeA (t : Int) (l : List Gap) : Int × Int × Int := if checkE t l ≠ 0 then (0, 0, checkE t l) else (sum l, great l, 0)
def takenA (t : Int) (l : List Gap) : List Gap × Int := if checkE t l ≠ 0 then ([], checkE t l) else (taken t l, 0)
end Go.Proofs.Ytinjfmcmjhehoaa.G
