/-
  Contracts of the small functions over gaps: same, New, grain, up, size. No condition but the ranges that their callers pay.
-/
import Derived.Test.YtinjfmcmjhehoaaRows
import Derived.Test.YtinjfmcmjhehoaaMem
import Derived.Test.YtinjfmcmjhehoaaGapPlain
import Derived.ProofKit
import Derived.OpenShut
import Derived.Outline
import Derived.BigQuiet
import Derived.Deep.QuietTactic
import Derived.RegionTactic
import Derived.Deep.RegionLaw
namespace Go.Proofs.Ytinjfmcmjhehoaa.gaps
open Go.ChangeShapes Go.WideShapes Go.ChangeAt Go.RowKit
open M G
set_option linter.unusedVariables false
def cells (l : List Gap) : List Value := l.flatMap fun g => [.int .i64 g.1, .int .i64 g.2]
theorem cells_nil : cells [] = [] := rfl
theorem cells_cons (g : Gap) (l : List Gap) : cells (g :: l) = .int .i64 g.1 :: .int .i64 g.2 :: cells l := rfl
theorem cells_append (a b : List Gap) : cells (a ++ b) = cells a ++ cells b := by simp [cells]
theorem cells_length (l : List Gap) : (cells l).length = l.length * 2 := by
  induction l with
  | nil => rfl
  | cons g l ih => rw [cells_cons]; simp only [List.length_cons, ih]; omega
theorem cells_ne {l : List Gap} (h : 0 < l.length) : cells l ≠ [] := by
  intro h0
  have := cells_length l
  rw [h0] at this
  simp at this
  omega
theorem cells_get : ∀ (l : List Gap) (k : Nat) (x : Int × Int), l[k]? = some x → (cells l)[k * 2]? = some (.int .i64 x.1) ∧ (cells l)[k * 2 + 1]? = some (.int .i64 x.2)
  | [], k, x, h => by simp at h
  | g :: l, 0, x, h => by simp at h; subst h; exact ⟨rfl, rfl⟩
  | g :: l, k + 1, x, h => by
    have := cells_get l k x (by simpa using h)
    rw [cells_cons, show (k + 1) * 2 = k * 2 + 1 + 1 from by omega, show k * 2 + 1 + 1 + 1 = (k * 2 + 1) + 1 + 1 from rfl]
    simpa using this
theorem cells_one (l : List Gap) : ∀ u ∈ cells l, u.oneCell' = true := by
  intro u hu
  simp only [cells, List.mem_flatMap, List.mem_cons, List.not_mem_nil, or_false] at hu
  obtain ⟨g, _, rfl | rfl⟩ := hu <;> rfl
theorem cells_take (l : List Gap) (k : Nat) : cells (l.take k) = (cells l).take (k * 2) := by
  induction l generalizing k with
  | nil => simp [cells]
  | cons g l ih =>
    cases k with
    | zero => simp [cells]
    | succ k => rw [List.take_succ_cons, cells_cons, cells_cons, show (k + 1) * 2 = k * 2 + 1 + 1 from by omega, List.take_succ_cons, List.take_succ_cons, ih]
theorem cells_drop (l : List Gap) (k : Nat) : cells (l.drop k) = (cells l).drop (k * 2) := by
  induction l generalizing k with
  | nil => simp [cells]
  | cons g l ih =>
    cases k with
    | zero => simp
    | succ k => rw [List.drop_succ_cons, cells_cons, show (k + 1) * 2 = k * 2 + 1 + 1 from by omega, List.drop_succ_cons, List.drop_succ_cons, ih]
/-- a gap that stands in memory -/
theorem rd_at {w : World} {B : Nat} {A : Option Addr} {l : List Gap} (h : Rd w B A (cells l)) {k : Nat} (hk : k < l.length) :
    ∃ ad p x1 x2, A = some ad ∧ l[k]? = some (x1, x2) ∧ ad.add (k * 2) = p ∧ p.block < B ∧ w.cell? p = some (.int .i64 x1) ∧ w.cell? ⟨p.block, p.off + 1, none⟩ = some (.int .i64 x2) := by
  obtain ⟨ad, e, hb, hc⟩ := h (cells_ne (by omega))
  have hg : l[k]? = some (l[k].1, l[k].2) := List.getElem?_eq_getElem hk
  obtain ⟨g1, g2⟩ := cells_get l k _ hg
  have h2 := hc _ _ g2
  rw [← M.add_add] at h2
  exact ⟨ad, _, _, _, e, hg, rfl, by rw [M.block_add]; exact hb, hc _ _ g1, h2⟩
theorem ret_int {k : IntKind} {a b : Int} (h : a = b) : Ending.returned (.int k a) = .returned (.int k b) := by rw [h]
theorem grain_any (t f s : Int) (w : World) (h0 : 0 ≤ t) (h1 : t ≤ 16777216) :
    Calls Try.prog 55 #[.int .i64 t, .agg #[.int .i64 f, .int .i64 s]] w fun e w' => e = .returned (.bool (grainB t (f, s))) ∧ Below w.heap.size w w' := by
  by_cases c1 : 0 ≤ f
  · by_cases c2 : f ≤ t
    · by_cases c3 : 0 < s
      · by_cases c4 : s ≤ t - f
        · by_cases c5 : f % 16 = 0
          · have b5 : (f % 16 == 0) = true := by simp [c5]
            have C5 := Lib.hid c5
            clear c5
            by_cases c6 : s % 16 = 0
            · have b6 : (s % 16 == 0) = true := by simp [c6]
              have C6 := Lib.hid c6
              clear c6
              have C5o := C5.out
              have C6o := C6.out
              have e : grainB t (f, s) = true := by simp [grainB]; omega
              rw [e]
              clear e C5o C6o
              go_enter Try.func55, Try.ntmps55
              go_wp2
              go_ret
              exact ⟨rfl, (Below.refl _ _).alloc (Nat.le_refl _) _⟩
            · have b6 : (s % 16 == 0) = false := by simp [c6]
              have C5o := C5.out
              have e : grainB t (f, s) = false := by simp [grainB]; omega
              rw [e]
              clear e C5o
              go_enter Try.func55, Try.ntmps55
              go_wp2
              go_ret
              exact ⟨rfl, (Below.refl _ _).alloc (Nat.le_refl _) _⟩
          · have b5 : (f % 16 == 0) = false := by simp [c5]
            have e : grainB t (f, s) = false := by simp [grainB]; omega
            rw [e]
            clear e
            go_enter Try.func55, Try.ntmps55
            go_wp2
            go_ret
            exact ⟨rfl, (Below.refl _ _).alloc (Nat.le_refl _) _⟩
        · have e : grainB t (f, s) = false := by simp [grainB]; omega
          rw [e]
          clear e
          go_enter Try.func55, Try.ntmps55
          go_wp2
          go_ret
          exact ⟨rfl, (Below.refl _ _).alloc (Nat.le_refl _) _⟩
      · have e : grainB t (f, s) = false := by simp [grainB]; omega
        rw [e]
        clear e
        go_enter Try.func55, Try.ntmps55
        go_wp2
        go_ret
        exact ⟨rfl, (Below.refl _ _).alloc (Nat.le_refl _) _⟩
    · have e : grainB t (f, s) = false := by simp [grainB]; omega
      rw [e]
      clear e
      go_enter Try.func55, Try.ntmps55
      go_wp2
      go_ret
      exact ⟨rfl, (Below.refl _ _).alloc (Nat.le_refl _) _⟩
  · have e : grainB t (f, s) = false := by simp [grainB]; omega
    rw [e]
    clear e
    go_enter Try.func55, Try.ntmps55
    go_wp2
    go_ret
    exact ⟨rfl, (Below.refl _ _).alloc (Nat.le_refl _) _⟩
theorem up_any (n : Int) (w : World) (h0 : 1 ≤ n) (h1 : n ≤ 16777216) :
    Calls Try.prog 62 #[.int .i64 n] w fun e w' => e = .returned (.int .i64 (up n)) ∧ w = w' := by
  go_enter Try.func62, Try.ntmps62
  go_wp2
  go_ret
  exact ⟨ret_int (by unfold up; omega), rfl⟩
theorem rounded_any (n : Int) (w : World) (h0 : 1 ≤ n) (h1 : n ≤ 16777216) :
    Calls Try.prog 58 #[.int .i64 n] w fun e w' => e = .returned (.int .i64 (up n)) ∧ w = w' := by
  go_enter Try.func58, Try.ntmps58
  go_wp2
  go_ret
  exact ⟨ret_int (by unfold up; omega), rfl⟩
theorem size_yes (n : Int) (w : World) (h0 : 1 ≤ n) (h1 : n ≤ 16777216) :
    Calls Try.prog 56 #[.int .i64 n] w fun e w' => e = .returned (.tuple #[.int .i64 (up n), .int .i64 0]) ∧ w = w' := by
  go_enter Try.func56, Try.ntmps56
  go_wp2_with (go_at_call 62; refine (up_any n _ h0 h1).mono ?_; rintro e w' ⟨rfl, rfl⟩)
  go_ret2
  exact ⟨rfl, rfl⟩
theorem size_no (n : Int) (w : World) (h : n < 1 ∨ 16777216 < n) :
    Calls Try.prog 56 #[.int .i64 n] w fun e w' => e = .returned (.tuple #[.int .i64 0, .int .i64 1]) ∧ w = w' := by
  rcases h with h | h
  · go_enter Try.func56, Try.ntmps56
    go_wp2_with fail
    go_ret2
    exact ⟨rfl, rfl⟩
  · go_enter Try.func56, Try.ntmps56
    go_wp2_with fail
    go_ret2
    exact ⟨rfl, rfl⟩
theorem ret_bool {a b : Bool} (h : a = b) : Ending.returned (.bool a) = .returned (.bool b) := by rw [h]
theorem take_succ_eq {xs ys : List Gap} {k : Nat} {x y : Gap} (hx : xs[k]? = some x) (hy : ys[k]? = some y) (h : xs.take k = ys.take k) : (xs.take (k + 1) = ys.take (k + 1)) ↔ x = y := by
  rw [List.take_add_one, List.take_add_one, hx, hy, h]
  simp
theorem same_ne {xs ys : List Gap} {k : Nat} {x y : Gap} (hx : xs[k]? = some x) (hy : ys[k]? = some y) (h : ¬ x = y) : decide (xs = ys) = false := by
  rw [decide_eq_false_iff_not]
  rintro rfl
  rw [hx] at hy
  injection hy with hy
  exact h hy
theorem same_any (A B : Option Addr) (n c d : Nat) (hn : n ≤ maxLen) (w : World) (xs ys : List Gap) (hx : xs.length = n) (hy : ys.length = n)
  (hA : Rd w w.heap.size A (cells xs)) (hB : Rd w w.heap.size B (cells ys)) :
    Calls Try.prog 38 #[.slice A n c, .slice B n d] w fun e w' => e = .returned (.bool (decide (xs = ys))) ∧ ∃ k, w' = w.drewN k := by
  unfold maxLen at hn
  have hb : ((n : Int) != n) = false := by simp
  have Hx := Lib.hid hx
  have Hy := Lib.hid hy
  clear hx hy
  generalize hans : decide (xs = ys) = ans
  have Hans := Lib.hid hans
  clear hans
  go_enter Try.func38, Try.ntmps38
  go_wp2
  go_loopw [5] (fun i wr => ∃ k : Nat, k ≤ n ∧ i = .int .i64 k ∧ xs.take k = ys.take k ∧ ∃ q, wr = w.drewN q) (fun i _ => n - (intOf i).toNat)
  case atStart => exact ⟨0, by omega, rfl, rfl, 0, rfl⟩
  case round =>
    obtain ⟨k, hk, rfl, he, q, rfl⟩ := hrel
    have He := Lib.hid he
    clear he
    by_cases hlt : k < n
    · obtain ⟨ada, p, x1, x2, rfl, hxk, hp, -, a1, a2⟩ := rd_at hA (k := k) (by rw [Hx.out]; exact hlt)
      obtain ⟨adb, p', y1, y2, rfl, hyk, hp', -, b1, b2⟩ := rd_at hB (k := k) (by rw [Hy.out]; exact hlt)
      have Hxk := Lib.hid hxk
      have Hyk := Lib.hid hyk
      clear hxk hyk hA hB
      by_cases e1 : x1 = y1
      · by_cases e2 : x2 = y2
        · subst e1 e2
          have hd1 : (x1 == x1) = true := by simp
          have hd2 : (x2 == x2) = true := by simp
          go_wp2
          go_quiet (fail)
          go_wp2
          go_roundw
          case rel => exact ⟨k + 1, by omega, by go_num, (take_succ_eq Hxk.out Hyk.out He.out).2 rfl, _, rfl⟩
          case measure => simp [intOf]; omega
        · have hd1 : (x1 == y1) = true := by simp [e1]
          have hd2 : (x2 == y2) = false := by simp [e2]
          have Hne : Hid (¬ (x1, x2) = (y1, y2)) := Lib.hid (by simp [e2])
          clear e1 e2
          go_wp2
          go_quiet (fail)
          go_wp2
          go_ret
          exact ⟨ret_bool ((same_ne Hxk.out Hyk.out Hne.out).symm.trans Hans.out), _, by rw [World.drewN_drewN]⟩
      · have hd1 : (x1 == y1) = false := by simp [e1]
        have Hne : Hid (¬ (x1, x2) = (y1, y2)) := Lib.hid (by simp [e1])
        clear e1
        go_wp2
        go_quiet (fail)
        go_wp2
        go_ret
        exact ⟨ret_bool ((same_ne Hxk.out Hyk.out Hne.out).symm.trans Hans.out), _, by rw [World.drewN_drewN]⟩
    · obtain rfl : k = n := by omega
      go_wp2
      go_ret
      refine ⟨ret_bool (.trans ?_ Hans.out), _, rfl⟩
      have h := He.out
      rw [List.take_of_length_le (by rw [Hx.out]; omega), List.take_of_length_le (by rw [Hy.out]; omega)] at h
      simp [h]
def OwnRes (w : World) (l : List Gap) (er : Int) (e : Ending) (w' : World) : Prop :=
  ∃ v, e = .returned (.tuple #[v, .int .i64 er]) ∧ w'.ownsRow w.heap.size 47 2 v l.length (cells l) ∧ Below w.heap.size w w'
theorem nil_res (w w' : World) (er : Int) (hb : Below w.heap.size w w') : OwnRes w [] er (.returned (.tuple #[.slice none 0 0, .int .i64 er])) w' :=
  ⟨_, rfl, World.ownsRow_nil _ _ _ _, hb⟩
theorem one_row (w : World) (t : Int) : (w.alloc (.cells #[.int .i64 0, .int .i64 t] 47)).ownsRow w.heap.size 47 2 (.slice (some ⟨w.heap.size, 0, none⟩) 1 1) 1 (cells [(0, t)]) :=
  World.ownsRow_lit (size := 2) w #[.int .i64 0, .int .i64 t] 1 (Nat.le_refl _) (by simp [maxLen]) rfl
theorem new_any (t : Int) (w : World) : Calls Try.prog 36 #[.int .i64 t] w (OwnRes w (newL t) (newE t)) := by
  by_cases h1 : t < 0
  · have e1 : okTotal t = false := by simp [okTotal]; omega
    rw [show newL t = [] from by simp [newL, e1], show newE t = 1 from by simp [newE, e1]]
    clear e1
    go_enter Try.func36, Try.ntmps36
    go_wp2
    go_ret2
    exact nil_res _ _ _ (Below.refl _ _)
  · by_cases h2 : 16777216 < t
    · have e1 : okTotal t = false := by simp [okTotal]; omega
      rw [show newL t = [] from by simp [newL, e1], show newE t = 1 from by simp [newE, e1]]
      clear e1
      go_enter Try.func36, Try.ntmps36
      go_wp2
      go_ret2
      exact nil_res _ _ _ (Below.refl _ _)
    · by_cases h3 : t % 16 = 0
      · have hb : (t % 16 != 0) = false := by simp [h3]
        have e1 : okTotal t = true := by simp [okTotal]; omega
        by_cases h4 : t = 0
        · subst h4
          rw [show newL 0 = [] from rfl, show newE 0 = 0 from rfl]
          clear e1 h3
          go_enter Try.func36, Try.ntmps36
          go_wp2
          go_ret2
          exact nil_res _ _ _ (Below.refl _ _)
        · have hb4 : (t == 0) = false := by simp [h4]
          rw [show newL t = [(0, t)] from by simp [newL, e1, h4], show newE t = 0 from by simp [newE, e1]]
          clear e1 h3
          go_enter Try.func36, Try.ntmps36
          go_wp2
          go_ret2
          exact ⟨_, rfl, one_row _ _, (Below.refl _ _).alloc (Nat.le_refl _) _⟩
      · have hb : (t % 16 != 0) = true := by simp [h3]
        have e1 : okTotal t = false := by simp [okTotal]; omega
        rw [show newL t = [] from by simp [newL, e1], show newE t = 1 from by simp [newE, e1]]
        clear e1 h3
        go_enter Try.func36, Try.ntmps36
        go_wp2
        go_ret2
        exact nil_res _ _ _ (Below.refl _ _)
theorem rnew_any (t : Int) (w : World) : Calls Try.prog 37 #[.int .i64 t] w (OwnRes w (newL t) (newE t)) := by
  by_cases h1 : t < 0
  · have e1 : okTotal t = false := by simp [okTotal]; omega
    rw [show newL t = [] from by simp [newL, e1], show newE t = 1 from by simp [newE, e1]]
    clear e1
    go_enter Try.func37, Try.ntmps37
    go_wp2
    go_ret2
    exact nil_res _ _ _ (Below.refl _ _)
  · by_cases h2 : 16777216 < t
    · have e1 : okTotal t = false := by simp [okTotal]; omega
      rw [show newL t = [] from by simp [newL, e1], show newE t = 1 from by simp [newE, e1]]
      clear e1
      go_enter Try.func37, Try.ntmps37
      go_wp2
      go_ret2
      exact nil_res _ _ _ (Below.refl _ _)
    · by_cases h3 : t % 16 = 0
      · have hb : (t % 16 != 0) = false := by simp [h3]
        have e1 : okTotal t = true := by simp [okTotal]; omega
        by_cases h4 : t = 0
        · subst h4
          rw [show newL 0 = [] from rfl, show newE 0 = 0 from rfl]
          clear e1 h3
          go_enter Try.func37, Try.ntmps37
          go_wp2
          go_ret2
          exact nil_res _ _ _ (Below.refl _ _)
        · have hb4 : (t == 0) = false := by simp [h4]
          rw [show newL t = [(0, t)] from by simp [newL, e1, h4], show newE t = 0 from by simp [newE, e1]]
          clear e1 h3
          go_enter Try.func37, Try.ntmps37
          go_wp2
          go_ret2
          exact ⟨_, rfl, one_row _ _, (Below.refl _ _).alloc (Nat.le_refl _) _⟩
      · have hb : (t % 16 != 0) = true := by simp [h3]
        have e1 : okTotal t = false := by simp [okTotal]; omega
        rw [show newL t = [] from by simp [newL, e1], show newE t = 1 from by simp [newE, e1]]
        clear e1 h3
        go_enter Try.func37, Try.ntmps37
        go_wp2
        go_ret2
        exact nil_res _ _ _ (Below.refl _ _)
end Go.Proofs.Ytinjfmcmjhehoaa.gaps
