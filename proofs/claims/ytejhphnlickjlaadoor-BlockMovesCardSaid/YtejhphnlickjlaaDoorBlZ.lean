/-
  The contract of number of package block. No condition but the bytes as they stand in memory.
-/
import Derived.BigRegionIn
import Derived.Test.YtejhphnlickjlaaDoorBlY
import Derived.Test.YtejhphnlickjlaaDoorBlC
set_option linter.unusedVariables false
set_option linter.unusedSimpArgs false
namespace Go.Proofs.YtejhphnlickjlaaDoor.bl
open Go.RowKit Go.Shelf
open M ty
set_option linter.unusedVariables false
attribute [local go_sem] Oper.semAt_some
/-- a variable's cells -/
def Held (W : World) (p : Nat) (cs : Array Value) (t : TypeId) : Prop := W.heap[p]? = some (.cells cs t (0, 0))
theorem held_own {β : Type} (p : Nat) (t : TypeId) (f : β → Array Value) : Own (fun s W => Held W p (f s) t) := fun s X Y row hs hg hrow =>
  (hg.block p (Array.getElem?_eq_some_iff.1 hs).1 (fun e => by obtain ⟨o, ho, hc⟩ := hrow p e.symm; rw [show X.heap[p]? = _ from hs] at ho; cases ho; cases hc)).trans hs
theorem Held.lt {W : World} {p : Nat} {cs : Array Value} {t : TypeId} (h : Held W p cs t) : p < W.heap.size := (Array.getElem?_eq_some_iff.1 h).1
theorem Held.alloc {W : World} {p : Nat} {cs : Array Value} {t : TypeId} (h : Held W p cs t) (o : Obj) : Held (W.alloc o) p cs t := (Below.heap_alloc W o p h.lt).trans h
theorem Held.other {W : World} {p q r : Nat} {cs : Array Value} {t : TypeId} (h : Held W p cs t) (hq : p ≠ q) (v : Value) : Held (W.setCell ⟨q, r, none⟩ v) p cs t := (heap_set_other v hq).trans h
theorem Held.new (W : World) (cs : Array Value) (t : TypeId) : Held (W.alloc (.cells cs t)) W.heap.size cs t := World.alloc_heap_new W _
theorem Held.cell {W : World} {p : Nat} {cs : Array Value} {t : TypeId} (h : Held W p cs t) (r : Nat) : W.cell? ⟨p, r, none⟩ = cs[r]? := Go.Joins.cell_of_block h r
theorem Held.frozen {W : World} {p : Nat} {cs : Array Value} {t : TypeId} (h : Held W p cs t) (r : Nat) : W.frozen? ⟨p, r, none⟩ = false := Go.Joins.unfrozen_of_block h r
theorem Held.set {W : World} {p : Nat} {cs : Array Value} {t : TypeId} (h : Held W p cs t) (r : Nat) (v : Value) : Held (W.setCell ⟨p, r, none⟩ v) p (cs.setIfInBounds r v) t := heap_set h v
def stepA (a : Int) (x : By) : Int := bits .or .i64 (wrap64 (a * 256)) x.n
def accL (pre : List (Nat × By)) : Int := pre.foldl (fun a x => stepA a x.2) 0
theorem accL_snoc (pre : List (Nat × By)) (x : Nat × By) : accL (pre ++ [x]) = stepA (accL pre) x.2 := by simp [accL]
theorem kpB_t {n₀ Bs : Nat} {A B C : World} (h : KpB n₀ Bs A B) (k : KpB n₀ Bs B C) : KpB n₀ Bs A C := ⟨h.1.trans k.1, k.2.trans h.2⟩
theorem kpB_b {n₀ Bs : Nat} {w : World} (hn : n₀ ≤ w.heap.size) (hb : Bs < w.heap.size) (W : World) (l : Nat) (o o' : Obj) (hl : w.heap.size ≤ l) (h : W.heap[l]? = some o) (_ : o.isCells = false) (_ : o.isWalk = false) : KpB n₀ Bs W (W.putObj l o') :=
  ⟨(Below.refl n₀ W).grown (grownBy_putObj' W l o') (by have := (Array.getElem?_eq_some_iff.1 h).1; omega) (fun k e => by cases e; omega),
    (grownBy_putObj' W l o').block Bs (by have := (Array.getElem?_eq_some_iff.1 h).1; omega) (fun e => by cases e; omega)⟩
def AllNum (pre : List (Nat × By)) : Prop := ∀ x ∈ pre, x.2.k = 1
def SomeNot (pre : List (Nat × By)) : Prop := ∃ x ∈ pre, x.2.k ≠ 1
theorem AllNum.snoc {pre : List (Nat × By)} {x : Nat × By} (h : AllNum pre) (hx : x.2.k = 1) : AllNum (pre ++ [x]) := fun z hz => by
  rcases List.mem_append.1 hz with h1 | h1
  · exact h z h1
  · rw [List.mem_singleton.1 h1]; exact hx
def numV (hi : Int) (n : Nat) (a : Int) : Int := if hi < a then wrap64 (a - 2 ^ (8 * n)) else a
section
variable {w : World} {s : ByteArray} {y p cap : Nat} {zs : List By} {lo hi : Int}
set_option maxRecDepth 100000 in
set_option maxHeartbeats 4000000 in
theorem number_ok (hlen : zs.length ≤ 4) (hy : y < w.heap.size) (hc : Hid (BytesAt w y p zs)) (HR : Hid (∀ W, Calls Tryd.prog 81 #[.string s] W fun e w' => e = .returned (.tuple #[.int .i64 lo, .int .i64 hi]) ∧ w' = W)) :
    Calls Tryd.prog 63 #[.string s, .slice (some ⟨y, p, none⟩) zs.length cap] w fun e w' => ((AllNum (upto (backOf zs) zs.length) ∧ e = .returned (.tuple #[.agg #[.int .i64 1, .int .i64 (numV hi zs.length (accL (upto (backOf zs) zs.length))), .int .i64 0], .int .i64 0])) ∨ ((∃ k, k ≤ zs.length ∧ SomeNot (upto (backOf zs) k)) ∧ e = .returned (.tuple #[.agg #[.int .i64 0, .int .i64 0, .int .i64 0], .int .i64 144]))) ∧ Below w.heap.size w w' := by
  refine (callsIn_wide (n := 3)).1 ?_
  have hro : Fence.wide.round = none := rfl
  refine callsIn_of_wp_marks Tryd.func63 rfl trivial ?_ hro
  simp only [Tryd.ntmps63, List.size_toArray, List.length_cons, List.length_nil, Nat.reduceAdd, Nat.reduceSub, Array.replicate_succ, Array.replicate_zero, List.push_toArray, List.append_toArray, List.nil_append, List.cons_append]
  gi_wp2_with (refine ⟨trivial, ?_⟩; gi_at_call 80; refine (back_in Fence.wide _ trivial hro _ _ _ _).mono ?_; rintro e w' ⟨rfl, rfl⟩)
  have bV := ((Held.new w #[.int .i64 0, .int .i64 0, .int .i64 0] 24).alloc (.cells #[.int .i64 0] 27)).alloc (.cells #[.int .i64 0] 3)
  have bE := (Held.new (w.alloc (.cells #[.int .i64 0, .int .i64 0, .int .i64 0] 24)) #[.int .i64 0] 27).alloc (.cells #[.int .i64 0] 3)
  have bN := Held.new ((w.alloc (.cells #[.int .i64 0, .int .i64 0, .int .i64 0] 24)).alloc (.cells #[.int .i64 0] 27)) #[.int .i64 0] 3
  have hB0 : Below w.heap.size w (((w.alloc (.cells #[.int .i64 0, .int .i64 0, .int .i64 0] 24)).alloc (.cells #[.int .i64 0] 27)).alloc (.cells #[.int .i64 0] 3)) := (((Below.refl _ w).alloc (Nat.le_refl _) _).alloc (by simp) _).alloc (by simp; omega) _
  have hsz : (((w.alloc (.cells #[.int .i64 0, .int .i64 0, .int .i64 0] 24)).alloc (.cells #[.int .i64 0] 27)).alloc (.cells #[.int .i64 0] 3)).heap.size = w.heap.size + 3 := by simp
  simp only [World.size_alloc] at bE bN
  generalize ((w.alloc (.cells #[.int .i64 0, .int .i64 0, .int .i64 0] 24)).alloc (.cells #[.int .i64 0] 27)).alloc (.cells #[.int .i64 0] 3) = W1 at *
  have bS := Held.new W1 #[.slice (some ⟨y, p, none⟩) zs.length cap] 52
  have hB1 := hB0.alloc hB0.size (.cells #[.slice (some ⟨y, p, none⟩) zs.length cap] 52)
  have hsz1 : (W1.alloc (.cells #[.slice (some ⟨y, p, none⟩) zs.length cap] 52)).heap.size = w.heap.size + 4 := by simp [hsz]
  replace bV := bV.alloc (.cells #[.slice (some ⟨y, p, none⟩) zs.length cap] 52)
  replace bE := bE.alloc (.cells #[.slice (some ⟨y, p, none⟩) zs.length cap] 52)
  replace bN := bN.alloc (.cells #[.slice (some ⟨y, p, none⟩) zs.length cap] 52)
  rw [hsz] at bS
  generalize W1.alloc (.cells #[.slice (some ⟨y, p, none⟩) zs.length cap] 52) = W0 at *
  clear hB0 hsz
  have HT := Lib.hid (back_stops Fence.wide (3 - 1) trivial hro (by omega) (w.heap.size + 1 + 1 + 1) w.heap.size y p cap zs (by omega) hy W0 (by omega) bS (hc.out.below hB1))
  refine wpIn_rangeFunc_ownH hro (by omega) (gf := 89) (lb := #[.pointer (some ⟨w.heap.size + 1 + 1 + 1, 0, none⟩)]) rfl trivial (enters_of Tryd.func89 (by kernel_rfl) rfl) HT.out kpB_t (kpB_b (by omega) (by omega)) (Below.refl _ _) (fun _ => rfl)
    (fun pre W => (((AllNum pre ∧ Held W w.heap.size #[.int .i64 0, .int .i64 0, .int .i64 0] 24 ∧ Held W (w.heap.size + 1) #[.int .i64 0] 27) ∧ Held W (w.heap.size + 1 + 1) #[.int .i64 (accL pre)] 3) ∧ Held W (w.heap.size + 1 + 1 + 1) #[.slice (some ⟨y, p, none⟩) zs.length cap] 52) ∧ Below w.heap.size w W)
    (fun c pre W => ((c = .ret ∧ SomeNot pre) ∧ Held W w.heap.size #[.int .i64 0, .int .i64 0, .int .i64 0] 24 ∧ Held W (w.heap.size + 1) #[.int .i64 144] 27) ∧ Below w.heap.size w W)
    (OwnFrom.and (fun pre X Y row hs hg hr => ⟨⟨⟨hs.1.1.1, held_own _ _ (fun (_ : Unit) => _) () X Y row hs.1.1.2.1 hg (fun r e => (hr r e).2), held_own _ _ (fun (_ : Unit) => _) () X Y row hs.1.1.2.2 hg (fun r e => (hr r e).2)⟩, held_own _ _ (fun (_ : Unit) => _) () X Y row hs.1.2 hg (fun r e => (hr r e).2)⟩, held_own _ _ (fun (_ : Unit) => _) () X Y row hs.2 hg (fun r e => (hr r e).2)⟩) (ownFrom_below (Nat.le_refl _) (by omega)))
    (fun c => OwnFrom.and (fun pre X Y row hs hg hr => ⟨hs.1, held_own _ _ (fun (_ : Unit) => _) () X Y row hs.2.1 hg (fun r e => (hr r e).2), held_own _ _ (fun (_ : Unit) => _) () X Y row hs.2.2 hg (fun r e => (hr r e).2)⟩) (ownFrom_below (Nat.le_refl _) (by omega)))
    ⟨⟨⟨⟨fun x hx => by simp at hx, bV, bE⟩, bN⟩, bS⟩, hB1⟩
    (fun x a' W => ∃ Bx, w.heap.size + 1 + 1 + 1 < Bx ∧ Held W Bx x.2.cells.toArray 54 ∧ a' = { tmps := #[.string s, .slice (some ⟨y, p, none⟩) zs.length cap, undef, undef, .pointer (some ⟨w.heap.size, 0, none⟩), .pointer (some ⟨w.heap.size + 1, 0, none⟩), .pointer (some ⟨w.heap.size + 1 + 1, 0, none⟩), undef, .pointer (some ⟨Bx, 0, none⟩), undef, undef,
      .slice (some ⟨y, p, none⟩) zs.length cap, .func (.func 89) #[] #[.pointer (some ⟨w.heap.size + 1 + 1 + 1, 0, none⟩)], .int .i64 (x.1 : Int), .agg x.2.cells.toArray, undef, undef, undef, undef, undef, undef, undef, undef, undef, undef, undef, undef, undef, undef, undef, undef, undef, undef, undef, undef, undef, undef, undef, undef, undef], defers := [] })
    (fun x a' _ X Y row hs hg hr => by obtain ⟨Bx, h1, h2, h3⟩ := hs; exact ⟨Bx, h1, held_own Bx 54 (fun (_ : Unit) => x.2.cells.toArray) () X Y row h2 hg (fun r e => (hr r e).2), h3⟩)
    ?assign ?body ?done ?stop
  case assign =>
    rintro l pre ⟨i, x⟩ W K ⟨⟨⟨⟨hp, v1, e1⟩, n1⟩, s1⟩, hB⟩ hK
    have hlt := s1.lt
    have bX := Held.new W #[.int .i64 0, .int .i64 0, .int .i64 0, .int .i64 0, .int .i64 0, .int .i64 0] 54
    have a0 := bX.cell 0
    have a1 := bX.cell 1
    have a2 := bX.cell 2
    have a3 := bX.cell 3
    have a4 := bX.cell 4
    have a5 := bX.cell 5
    have f0 := bX.frozen 0
    have f1 := bX.frozen 1
    have f2 := bX.frozen 2
    have f3 := bX.frozen 3
    have f4 := bX.frozen 4
    have f5 := bX.frozen 5
    simp only [List.getElem?_toArray, List.getElem?_cons_zero, List.getElem?_cons_succ] at a0 a1 a2 a3 a4 a5
    simp only [By.cells]
    gi_wp2
    exact hK _ _ ((KeepsOthers.alloc _ _).from _) ⟨(Below.refl _ W).alloc hB.size _, Below.heap_alloc W _ _ hlt⟩ ⟨⟨⟨⟨hp, v1.alloc _, e1.alloc _⟩, n1.alloc _⟩, s1.alloc _⟩, hB.alloc hB.size _⟩ ⟨W.heap.size, hlt, Held.new W _ 54, rfl⟩
  case body =>
    rintro l pre ⟨i, x⟩ a' W hl ⟨r, hr⟩ ⟨⟨⟨⟨hp, v1, e1⟩, n1⟩, s1⟩, hB⟩ ⟨Bx, hBx, bX, rfl⟩ hlt
    have a0 : W.cell? ⟨Bx, 0, none⟩ = some (.int .i64 x.k) := bX.cell 0
    have a1 : W.cell? ⟨Bx, 1, none⟩ = some (.int .i64 x.n) := bX.cell 1
    have g0 : W.cell? ⟨w.heap.size, 0, none⟩ = some (.int .i64 0) := v1.cell 0
    have g1 : W.cell? ⟨w.heap.size, 1, none⟩ = some (.int .i64 0) := v1.cell 1
    have g2 : W.cell? ⟨w.heap.size, 2, none⟩ = some (.int .i64 0) := v1.cell 2
    have f0 := v1.frozen 0
    have f1 := v1.frozen 1
    have f2 := v1.frozen 2
    have g3 : W.cell? ⟨w.heap.size + 1, 0, none⟩ = some (.int .i64 0) := e1.cell 0
    have f3 := e1.frozen 0
    have g4 : W.cell? ⟨w.heap.size + 1 + 1, 0, none⟩ = some (.int .i64 (accL pre)) := n1.cell 0
    have f4 := n1.frozen 0
    by_cases hk : x.k = 1
    · have hk' : (x.k != 1) = false := by simpa using hk
      gi_wp2
      exact ⟨(KeepsOthers.setCell _ _ _).from _, ⟨(Below.refl _ W).setCell (p := ⟨w.heap.size + 1 + 1, 0, none⟩) (by simp; omega) _, heap_set_other _ (by omega)⟩,
        ⟨⟨⟨⟨hp.snoc hk, v1.other (by omega) _, e1.other (by omega) _⟩, by rw [accL_snoc]; exact n1.set 0 _⟩, s1.other (by omega) _⟩, hB.setCell (p := ⟨w.heap.size + 1 + 1, 0, none⟩) (by simp; omega) _⟩⟩
    · have hk' : (x.k != 1) = true := by simpa using hk
      gi_wp2
      exact ⟨((((KeepsOthers.setCell W _ _).trans (KeepsOthers.setCell _ _ _)).trans (KeepsOthers.setCell _ _ _)).trans (KeepsOthers.setCell _ _ _)).from _, ⟨⟨rfl, ⟨(i, x), by simp, hk⟩⟩,
        by simpa using (((v1.set 0 (.int .i64 0)).set 1 (.int .i64 0)).set 2 (.int .i64 0)).other (q := w.heap.size + 1) (r := 0) (by omega) (.int .i64 144),
        by simpa using (((e1.other (q := w.heap.size) (r := 0) (by omega) (.int .i64 0)).other (q := w.heap.size) (r := 1) (by omega) (.int .i64 0)).other (q := w.heap.size) (r := 2) (by omega) (.int .i64 0)).set 0 (.int .i64 144)⟩,
        (((hB.setCell (p := ⟨w.heap.size, 0, none⟩) (Nat.le_refl _) _).setCell (p := ⟨w.heap.size, 1, none⟩) (Nat.le_refl _) _).setCell (p := ⟨w.heap.size, 2, none⟩) (Nat.le_refl _) _).setCell (p := ⟨w.heap.size + 1, 0, none⟩) (by simp) _⟩
  case done =>
    rintro D xs W hD rfl ⟨⟨⟨⟨hp, v1, e1⟩, n1⟩, s1⟩, hB⟩ hK
    have g0 : W.cell? ⟨w.heap.size, 0, none⟩ = some (.int .i64 0) := v1.cell 0
    have g1 : W.cell? ⟨w.heap.size, 1, none⟩ = some (.int .i64 0) := v1.cell 1
    have g2 : W.cell? ⟨w.heap.size, 2, none⟩ = some (.int .i64 0) := v1.cell 2
    have f0 := v1.frozen 0
    have f1 := v1.frozen 1
    have f2 := v1.frozen 2
    have g3 : W.cell? ⟨w.heap.size + 1, 0, none⟩ = some (.int .i64 0) := e1.cell 0
    have f3 := e1.frozen 0
    have g4 : W.cell? ⟨w.heap.size + 1 + 1, 0, none⟩ = some (.int .i64 (accL (upto (backOf zs) zs.length))) := n1.cell 0
    have f4 := n1.frozen 0
    have HP := Lib.hid hp
    clear hp
    generalize hacc : accL (upto (backOf zs) zs.length) = acc at *
    have HACC := Lib.hid hacc
    clear hacc
    have hw8 : wrap64 (8 * (zs.length : Int)) = 8 * (zs.length : Int) := IntWalk.wrap64_in _ (by omega)
    have hp2 : wrap64 ((2 : Int) ^ (8 * zs.length)) = (2 : Int) ^ (8 * zs.length) := by
      have : zs.length = 0 ∨ zs.length = 1 ∨ zs.length = 2 ∨ zs.length = 3 ∨ zs.length = 4 := by omega
      rcases this with h | h | h | h | h <;> rw [h] <;> simp [wrap64]
    by_cases hgt : hi < acc
    · gi_wp2_with (refine ⟨trivial, ?_⟩; gi_at_call 81; refine (callsIn_wide.2 (HR.out _)).mono ?_; rintro e w' ⟨rfl, rfl⟩)
      gi_region
      have hC : numV hi zs.length acc = wrap64 (acc - 2 ^ (8 * zs.length)) := by unfold numV; rw [if_pos hgt]
      replace v1 : Held ((w'.setCell ⟨w.heap.size + 1 + 1, 0, none⟩ (.int .i64 (wrap64 (acc - 2 ^ (8 * zs.length))))).drew) w.heap.size _ 24 := v1.other (by omega) _
      replace e1 : Held ((w'.setCell ⟨w.heap.size + 1 + 1, 0, none⟩ (.int .i64 (wrap64 (acc - 2 ^ (8 * zs.length))))).drew) (w.heap.size + 1) _ 27 := e1.other (by omega) _
      replace n1 : Held ((w'.setCell ⟨w.heap.size + 1 + 1, 0, none⟩ (.int .i64 (wrap64 (acc - 2 ^ (8 * zs.length))))).drew) (w.heap.size + 1 + 1) #[.int .i64 (wrap64 (acc - 2 ^ (8 * zs.length)))] 3 := n1.set 0 _
      replace hB := (hB.setCell (p := ⟨w.heap.size + 1 + 1, 0, none⟩) (by simp; omega) (.int .i64 (wrap64 (acc - 2 ^ (8 * zs.length))))).drew
      replace hK : (w'.setCell ⟨w.heap.size + 1 + 1, 0, none⟩ (.int .i64 (wrap64 (acc - 2 ^ (8 * zs.length))))).drew.heap[D]? = some (.deferred (some [])) := (KeepsOthers.setCell w' ⟨w.heap.size + 1 + 1, 0, none⟩ (.int .i64 (wrap64 (acc - 2 ^ (8 * zs.length))))).same D _ hK rfl
      clear g0 g1 g2 g3 g4 f0 f1 f2 f3 f4 s1
      generalize (w'.setCell ⟨w.heap.size + 1 + 1, 0, none⟩ (.int .i64 (wrap64 (acc - 2 ^ (8 * zs.length))))).drew = W2 at *
      generalize wrap64 (acc - 2 ^ (8 * zs.length)) = C at *
      have g0 : W2.cell? ⟨w.heap.size, 0, none⟩ = some (.int .i64 0) := v1.cell 0
      have g1 : W2.cell? ⟨w.heap.size, 1, none⟩ = some (.int .i64 0) := v1.cell 1
      have g2 : W2.cell? ⟨w.heap.size, 2, none⟩ = some (.int .i64 0) := v1.cell 2
      have f0 := v1.frozen 0
      have f1 := v1.frozen 1
      have f2 := v1.frozen 2
      have g3 : W2.cell? ⟨w.heap.size + 1, 0, none⟩ = some (.int .i64 0) := e1.cell 0
      have f3 := e1.frozen 0
      have g4 : W2.cell? ⟨w.heap.size + 1 + 1, 0, none⟩ = some (.int .i64 C) := n1.cell 0
      have v2 : Held ((((W2.setCell ⟨w.heap.size, 0, none⟩ (.int .i64 1)).setCell ⟨w.heap.size, 1, none⟩ (.int .i64 C)).setCell ⟨w.heap.size, 2, none⟩ (.int .i64 0)).setCell ⟨w.heap.size + 1, 0, none⟩ (.int .i64 0)) w.heap.size #[.int .i64 1, .int .i64 C, .int .i64 0] 24 := by
        simpa using (((v1.set 0 (.int .i64 1)).set 1 (.int .i64 C)).set 2 (.int .i64 0)).other (q := w.heap.size + 1) (r := 0) (by omega) (.int .i64 0)
      have e2 : Held ((((W2.setCell ⟨w.heap.size, 0, none⟩ (.int .i64 1)).setCell ⟨w.heap.size, 1, none⟩ (.int .i64 C)).setCell ⟨w.heap.size, 2, none⟩ (.int .i64 0)).setCell ⟨w.heap.size + 1, 0, none⟩ (.int .i64 0)) (w.heap.size + 1) #[.int .i64 0] 27 := by
        simpa using (((e1.other (q := w.heap.size) (r := 0) (by omega) (.int .i64 1)).other (q := w.heap.size) (r := 1) (by omega) (.int .i64 C)).other (q := w.heap.size) (r := 2) (by omega) (.int .i64 0)).set 0 (.int .i64 0)
      have hK' := ((((KeepsOthers.setCell W2 ⟨w.heap.size, 0, none⟩ (.int .i64 1)).trans (KeepsOthers.setCell _ ⟨w.heap.size, 1, none⟩ (.int .i64 C))).trans (KeepsOthers.setCell _ ⟨w.heap.size, 2, none⟩ (.int .i64 0))).trans (KeepsOthers.setCell _ ⟨w.heap.size + 1, 0, none⟩ (.int .i64 0))).same D _ hK rfl
      have hB' := (((hB.setCell (p := ⟨w.heap.size, 0, none⟩) (Nat.le_refl _) (.int .i64 1)).setCell (p := ⟨w.heap.size, 1, none⟩) (Nat.le_refl _) (.int .i64 C)).setCell (p := ⟨w.heap.size, 2, none⟩) (Nat.le_refl _) (.int .i64 0)).setCell (p := ⟨w.heap.size + 1, 0, none⟩) (by simp) (.int .i64 0)
      gi_wp2
      refine ⟨by simp, .inl ⟨_, _, rfl, run_takeDeferred hK', ?_⟩⟩
      have hv := held_own _ _ (fun (_ : Unit) => _) () _ _ _ v2 (grownBy_putObj' _ D (.deferred none)) (fun r e => by cases e; exact ⟨_, hK', rfl⟩)
      have he := held_own _ _ (fun (_ : Unit) => _) () _ _ _ e2 (grownBy_putObj' _ D (.deferred none)) (fun r e => by cases e; exact ⟨_, hK', rfl⟩)
      refine ⟨.tuple #[.agg #[.int .i64 1, .int .i64 C, .int .i64 0], .int .i64 0], ?_, .inl ⟨HP.out, ?_⟩, hB'.trans (belowK_b (w := w) (Nat.le_refl _) _ D _ _ (by omega) hK' rfl rfl)⟩
      · have q0 := hv.cell 0
        have q1 := hv.cell 1
        have q2 := hv.cell 2
        have q3 := he.cell 0
        simp only [List.getElem?_toArray, List.getElem?_cons_zero, List.getElem?_cons_succ] at q0 q1 q2 q3
        simp [results, Tryd.f63, go_sem, q0, q1, q2, q3]
      · rw [HACC.out, hC]
    · have hC : numV hi zs.length acc = acc := by unfold numV; rw [if_neg hgt]
      have v2 : Held ((((W.setCell ⟨w.heap.size, 0, none⟩ (.int .i64 1)).setCell ⟨w.heap.size, 1, none⟩ (.int .i64 acc)).setCell ⟨w.heap.size, 2, none⟩ (.int .i64 0)).setCell ⟨w.heap.size + 1, 0, none⟩ (.int .i64 0)) w.heap.size #[.int .i64 1, .int .i64 acc, .int .i64 0] 24 := by
        simpa using (((v1.set 0 (.int .i64 1)).set 1 (.int .i64 acc)).set 2 (.int .i64 0)).other (q := w.heap.size + 1) (r := 0) (by omega) (.int .i64 0)
      have e2 : Held ((((W.setCell ⟨w.heap.size, 0, none⟩ (.int .i64 1)).setCell ⟨w.heap.size, 1, none⟩ (.int .i64 acc)).setCell ⟨w.heap.size, 2, none⟩ (.int .i64 0)).setCell ⟨w.heap.size + 1, 0, none⟩ (.int .i64 0)) (w.heap.size + 1) #[.int .i64 0] 27 := by
        simpa using (((e1.other (q := w.heap.size) (r := 0) (by omega) (.int .i64 1)).other (q := w.heap.size) (r := 1) (by omega) (.int .i64 acc)).other (q := w.heap.size) (r := 2) (by omega) (.int .i64 0)).set 0 (.int .i64 0)
      have hK' := ((((KeepsOthers.setCell W ⟨w.heap.size, 0, none⟩ (.int .i64 1)).trans (KeepsOthers.setCell _ ⟨w.heap.size, 1, none⟩ (.int .i64 acc))).trans (KeepsOthers.setCell _ ⟨w.heap.size, 2, none⟩ (.int .i64 0))).trans (KeepsOthers.setCell _ ⟨w.heap.size + 1, 0, none⟩ (.int .i64 0))).same D _ hK rfl
      have hB' := (((hB.setCell (p := ⟨w.heap.size, 0, none⟩) (Nat.le_refl _) (.int .i64 1)).setCell (p := ⟨w.heap.size, 1, none⟩) (Nat.le_refl _) (.int .i64 acc)).setCell (p := ⟨w.heap.size, 2, none⟩) (Nat.le_refl _) (.int .i64 0)).setCell (p := ⟨w.heap.size + 1, 0, none⟩) (by simp) (.int .i64 0)
      gi_wp2_with (refine ⟨trivial, ?_⟩; gi_at_call 81; refine (callsIn_wide.2 (HR.out _)).mono ?_; rintro e w' ⟨rfl, rfl⟩)
      refine ⟨by simp, .inl ⟨_, _, rfl, run_takeDeferred hK', ?_⟩⟩
      have hv := held_own _ _ (fun (_ : Unit) => _) () _ _ _ v2 (grownBy_putObj' _ D (.deferred none)) (fun r e => by cases e; exact ⟨_, hK', rfl⟩)
      have he := held_own _ _ (fun (_ : Unit) => _) () _ _ _ e2 (grownBy_putObj' _ D (.deferred none)) (fun r e => by cases e; exact ⟨_, hK', rfl⟩)
      refine ⟨.tuple #[.agg #[.int .i64 1, .int .i64 acc, .int .i64 0], .int .i64 0], ?_, .inl ⟨HP.out, ?_⟩, hB'.trans (belowK_b (w := w) (Nat.le_refl _) _ D _ _ (by omega) hK' rfl rfl)⟩
      · have q0 := hv.cell 0
        have q1 := hv.cell 1
        have q2 := hv.cell 2
        have q3 := he.cell 0
        simp only [List.getElem?_toArray, List.getElem?_cons_zero, List.getElem?_cons_succ] at q0 q1 q2 q3
        simp [results, Tryd.f63, go_sem, q0, q1, q2, q3]
      · rw [HACC.out, hC]
  case stop =>
    rintro D c pre W hD ⟨k, hk, rfl⟩ ⟨⟨⟨rfl, hx⟩, v1, e1⟩, hB⟩ hK
    gi_wp2
    refine ⟨by simp, .inl ⟨_, _, rfl, run_takeDeferred hK, ?_⟩⟩
    have hv := held_own _ _ (fun (_ : Unit) => _) () _ _ _ v1 (grownBy_putObj' W D (.deferred none)) (fun r e => by cases e; exact ⟨_, hK, rfl⟩)
    have he := held_own _ _ (fun (_ : Unit) => _) () _ _ _ e1 (grownBy_putObj' W D (.deferred none)) (fun r e => by cases e; exact ⟨_, hK, rfl⟩)
    refine ⟨.tuple #[.agg #[.int .i64 0, .int .i64 0, .int .i64 0], .int .i64 144], ?_, .inr ⟨⟨k, hk, hx⟩, rfl⟩, hB.trans (belowK_b (w := w) (Nat.le_refl _) _ D _ _ (by omega) hK rfl rfl)⟩
    have q0 := hv.cell 0
    have q1 := hv.cell 1
    have q2 := hv.cell 2
    have q3 := he.cell 0
    simp only [List.getElem?_toArray, List.getElem?_cons_zero, List.getElem?_cons_succ] at q0 q1 q2 q3
    simp [results, Tryd.f63, go_sem, q0, q1, q2, q3]
/-- the number of bytes -/
def numT (hi : Int) (zs : List By) : Int := numV hi zs.length (accL (upto (backOf zs) zs.length))
theorem all_of {zs : List By} (h : AllNum (upto (backOf zs) zs.length)) : ∀ x ∈ zs, x.k = 1 := fun x hx => by
  obtain ⟨m, hm, rfl⟩ := List.mem_iff_getElem.1 hx
  have := h (backOf zs (zs.length - 1 - m)) (List.mem_map.2 ⟨zs.length - 1 - m, List.mem_range.2 (by omega), rfl⟩)
  unfold backOf at this
  rw [show zs.length - 1 - (zs.length - 1 - m) = m by omega, List.getElem?_eq_getElem hm] at this
  exact this
theorem not_of {zs : List By} {k : Nat} (hk : k ≤ zs.length) (h : SomeNot (upto (backOf zs) k)) : ∃ x ∈ zs, x.k ≠ 1 := by
  obtain ⟨x, hx, hn⟩ := h
  obtain ⟨j, hj, rfl⟩ := List.mem_map.1 hx
  have hj' : j < k := List.mem_range.1 hj
  have hm : zs.length - 1 - j < zs.length := by omega
  refine ⟨zs[zs.length - 1 - j], List.getElem_mem hm, ?_⟩
  unfold backOf at hn
  rw [List.getElem?_eq_getElem hm] at hn
  exact hn
theorem number_any (s : ByteArray) (y p cap n : Nat) (zs : List By) (w : World) (hl : zs.length = n) (hlen : n ≤ 4) (hy : y < w.heap.size) (hc : BytesAt w y p zs) :
    Calls Tryd.prog 63 #[.string s, .slice (some ⟨y, p, none⟩) n cap] w fun e w' => e = .returned (if zs.all (fun x => x.k == 1) = true then .tuple #[.agg #[.int .i64 1, .int .i64 (numT (rangeT (T.nums s)).2 zs), .int .i64 0], .int .i64 0] else .tuple #[.agg #[.int .i64 0, .int .i64 0, .int .i64 0], .int .i64 144]) ∧ Below w.heap.size w w' := by
  subst hl
  refine (number_ok (s := s) (lo := (rangeT (T.nums s)).1) (hi := (rangeT (T.nums s)).2) (cap := cap) hlen hy (Lib.hid hc) (Lib.hid fun W => ranges_any s W)).mono fun e w' h => ?_
  obtain ⟨h1 | h1, h2⟩ := h
  · obtain ⟨ha, rfl⟩ := h1
    rw [if_pos (by rw [List.all_eq_true]; intro x hx; simpa using all_of ha x hx)]
    exact ⟨rfl, h2⟩
  · obtain ⟨⟨k, hk, hs⟩, rfl⟩ := h1
    obtain ⟨x, hx, hn⟩ := not_of hk hs
    rw [if_neg (by rw [List.all_eq_true]; intro h; exact hn (by simpa using h x hx))]
    exact ⟨rfl, h2⟩
end
end Go.Proofs.YtejhphnlickjlaaDoor.bl
