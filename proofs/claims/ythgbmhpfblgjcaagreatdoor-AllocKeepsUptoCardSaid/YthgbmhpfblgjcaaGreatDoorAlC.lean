/-
  What known of package alloc tells, plainly, and how it stands in memory. No program's code in sight.
-/
import Derived.Test.YthgbmhpfblgjcaaGreatDoorTwO
import Derived.Test.YthgbmhpfblgjcaaGreatDoorFlY
set_option linter.unusedVariables false
set_option linter.unusedSimpArgs false
namespace Go.Proofs.YthgbmhpfblgjcaaGreatDoor.fl
open Go.RowKit Go.Shelf
open M T ty
set_option linter.unusedVariables false
abbrev Prs := List (Int × Int)
/-- a row of a matrix that is given by pairs -/
def mrow (L : Prs) (r a : Nat) : List Bool := (List.range r).map fun b : Nat => decide (((a : Int), (b : Int)) ∈ L)
theorem mrow_length (L : Prs) (r a : Nat) : (mrow L r a).length = r := by simp [mrow]
theorem mrow_get (L : Prs) {r b : Nat} (a : Nat) (h : b < r) : (mrow L r a)[b]? = some (decide (((a : Int), (b : Int)) ∈ L)) := by simp [mrow, List.getElem?_range h]
theorem mrow_none {L : Prs} {r a : Nat} (h : ∀ b : Nat, ((a : Int), (b : Int)) ∉ L) : mrow L r a = List.replicate r false := by
  apply List.ext_getElem?
  intro i
  by_cases hi : i < r
  · rw [mrow_get _ _ hi, List.getElem?_replicate, if_pos hi, decide_eq_false (h i)]
  · rw [List.getElem?_eq_none (by rw [mrow_length]; omega), List.getElem?_eq_none (by simp; omega)]
theorem mrow_same (L : Prs) {r a b : Nat} (h : b < r) : mrow (L ++ [((a : Int), (b : Int))]) r a = (mrow L r a).set b true := by
  apply List.ext_getElem?
  intro i
  rw [List.getElem?_set]
  by_cases hi : i < r
  · rw [mrow_get _ _ hi, mrow_get _ _ hi]
    by_cases hij : b = i
    · subst hij
      rw [if_pos rfl, if_pos (by rw [mrow_length]; exact hi)]
      simp
    · rw [if_neg hij]
      congr 1
      rw [decide_eq_decide]
      simp
      omega
  · rw [List.getElem?_eq_none (by rw [mrow_length]; omega)]
    split
    · omega
    · rw [List.getElem?_eq_none (by rw [mrow_length]; omega)]
theorem mrow_other (L : Prs) (r : Nat) {a a' : Nat} (b : Nat) (h : a' ≠ a) : mrow (L ++ [((a' : Int), (b : Int))]) r a = mrow L r a := by
  unfold mrow
  apply List.map_congr_left
  intro i _
  rw [decide_eq_decide]
  simp
  omega
/-- the clashes as pairs -/
def wd1 (cl : Nat → List Int) (n : Nat) : Prs := (List.range n).flatMap fun a => (cl a).map fun s => ((a : Int), s)
theorem wd1_succ (cl : Nat → List Int) (n : Nat) : wd1 cl (n + 1) = wd1 cl n ++ (cl n).map fun s => ((n : Int), s) := by
  unfold wd1
  rw [List.range_succ, List.flatMap_append]
  simp
theorem wd1_lt {cl : Nat → List Int} {n : Nat} {p : Int × Int} (h : p ∈ wd1 cl n) : ∃ a : Nat, a < n ∧ p.1 = a ∧ p.2 ∈ cl a := by
  unfold wd1 at h
  obtain ⟨a, ha, hp⟩ := List.mem_flatMap.1 h
  obtain ⟨s, hs, rfl⟩ := List.mem_map.1 hp
  exact ⟨a, List.mem_range.1 ha, rfl, hs⟩
/-- what one that is kept has against those that are written -/
def wp1 (k : Int) (w : List Int) : Prs := w.flatMap fun s => if s ≠ k then [(k, s), (s, k)] else []
theorem wp1_snoc (k : Int) (w : List Int) (s : Int) : wp1 k (w ++ [s]) = wp1 k w ++ if s ≠ k then [(k, s), (s, k)] else [] := by
  unfold wp1
  rw [List.flatMap_append]
  simp
def wpairs (kept risky w : List Int) : Prs := kept.flatMap fun k => if k ∈ risky then [] else wp1 k w
theorem wpairs_snoc (kept risky w : List Int) (k : Int) : wpairs (kept ++ [k]) risky w = wpairs kept risky w ++ if k ∈ risky then [] else wp1 k w := by
  unfold wpairs
  rw [List.flatMap_append]
  simp
noncomputable def acT (f : Fn) (rc : List Bool) (s : Ins) (t : Tw) : List Int :=
  match f.bl[t.1]? with
  | some x => less (liveIn rc s x.ex.to.toNat) x.ex.d ++ t.2.1
  | none => []
noncomputable def wdT (f : Fn) (r : Nat) (t : Tw) : Prs :=
  match f.bl[t.1]? with
  | some x => wpairs t.2.1 t.2.2 (trues (btwOf f.bl x.ex r) r)
  | none => []
def clK (f : Fn) (rc : List Bool) (s : Ins) (a : Nat) : List Int := list (clash f.params.toNat f.bl rc s a)
noncomputable def acL (f : Fn) (rc : List Bool) (s : Ins) (ts : List Tw) : List Int := list (across f.bl rc s) ++ ts.flatMap (acT f rc s)
noncomputable def wdL (f : Fn) (rc : List Bool) (s : Ins) (r : Nat) (ts : List Tw) : Prs := wd1 (clK f rc s) r ++ ts.flatMap (wdT f r)
/-! how it stands -/
def rowV (r b : Nat) : Value := .slice (some ⟨b, 0, none⟩) r r
theorem own_same {W W' : World} {base E size n : Nat} {v : Value} {xs : List Value} (h : W.ownsRow base E size v n xs) (hk : ∀ g, v.ownBlock = some g → W'.heap[g]? = W.heap[g]?) : W'.ownsRow base E size v n xs := by
  refine ⟨h.1, ?_⟩
  rcases h.2 with h0 | ⟨g, cap, cur, rfl, hg, hh, r⟩
  · exact .inl h0
  · exact .inr ⟨g, cap, cur, rfl, hg, (hk g rfl).trans hh, r⟩
theorem off_bool {W : World} {base E size n g : Nat} {l : List Bool} {v : Value} {xs : List Value} (hE : E ≠ 4) (hg : BoolsAt W g l) (h : W.ownsRow base E size v n xs) : v.ownBlock ≠ some g := by
  intro e
  rcases h.2 with ⟨rfl, -⟩ | ⟨b, cap, cur, rfl, -, hb, -⟩
  · simp [Value.ownBlock] at e
  · obtain rfl : b = g := by simpa [Value.ownBlock] using e
    have := hg.symm.trans hb
    simp at this
    exact hE this.2.symm
structure MatAt (W : World) (lo : Nat) (v : Value) (wb : List Nat) (L : Prs) (r : Nat) : Prop where
  own : W.ownsRow lo 84 1 v wb.length (wb.map (rowV r))
  row : ∀ (a b : Nat), wb[a]? = some b → BoolsAt W b (mrow L r a) ∧ lo ≤ b
  inj : ∀ (a a' b : Nat), wb[a]? = some b → wb[a']? = some b → a = a'
section
variable {W W' : World} {lo : Nat} {v : Value} {wb : List Nat} {L : Prs} {r : Nat}
theorem MatAt.keep (h : MatAt W lo v wb L r) (hk : ∀ k, lo ≤ k → k < W.heap.size → W'.heap[k]? = W.heap[k]?) : MatAt W' lo v wb L r :=
  ⟨own_same h.own fun g hg => hk g (h.own.lt g hg).1 (h.own.lt g hg).2, fun a b hb => ⟨(hk b (h.row a b hb).2 (h.row a b hb).1.lt).trans (h.row a b hb).1, (h.row a b hb).2⟩, h.inj⟩
theorem MatAt.set (h : MatAt W lo v wb L r) {a b c : Nat} (hb : wb[a]? = some b) (hc : c < r) : MatAt (W.setCell ⟨b, c, none⟩ (.bool true)) lo v wb (L ++ [((a : Int), (c : Int))]) r := by
  have hbs := (h.row a b hb).1
  refine ⟨own_same h.own fun g hg => heap_other _ (fun e => off_bool (by decide) hbs h.own (by rw [hg, e])), fun a' b' hb' => ⟨?_, (h.row a' b' hb').2⟩, h.inj⟩
  by_cases e : b' = b
  · subst e
    obtain rfl := h.inj a a' b' hb hb'
    rw [mrow_same L hc]
    exact hbs.set c true
  · rw [mrow_other L r c (a := a') (a' := a) (fun e' => e (by rw [e', hb'] at hb; exact Option.some.inj hb))]
    exact (heap_other _ e).trans (h.row a' b' hb').1
theorem MatAt.nil (W : World) (lo : Nat) (r : Nat) : MatAt W lo (.slice none 0 0) [] [] r := ⟨⟨rfl, .inl ⟨rfl, rfl⟩⟩, fun a b h => by simp at h, fun a a' b h => by simp at h⟩
/-- one row more -/
theorem MatAt.app (h : MatAt W lo v wb L r) {b : Nat} (hz : BoolsAt W b (List.replicate r false)) (hlo : lo ≤ b) (hb : b ∉ wb) (hL : ∀ c : Nat, (((wb.length : Nat) : Int), (c : Int)) ∉ L) {v' : Value}
    (ho : W'.ownsRow lo 84 1 v' (wb.map (rowV r) ++ [rowV r b]).length (wb.map (rowV r) ++ [rowV r b])) (hg : W.grownBy W' v.ownBlock) : MatAt W' lo v' (wb ++ [b]) L r := by
  have key : ∀ g l, BoolsAt W g l → BoolsAt W' g l := fun g l hgl => (hg.block g hgl.lt (fun e => off_bool (by decide) hgl h.own e.symm)).trans hgl
  refine ⟨by rw [List.map_append, List.length_append]; simpa using ho, fun a b' hb' => ?_, fun a a' b' h1 h2 => ?_⟩
  · rcases Nat.lt_or_ge a wb.length with ha | ha
    · rw [List.getElem?_append_left ha] at hb'
      exact ⟨key _ _ (h.row a b' hb').1, (h.row a b' hb').2⟩
    · rw [List.getElem?_append_right ha] at hb'
      obtain rfl : a = wb.length := by
        have := (List.getElem?_eq_some_iff.1 hb').1
        simp at this
        omega
      rw [Nat.sub_self] at hb'
      obtain rfl : b = b' := by simpa using hb'
      rw [mrow_none hL]
      exact ⟨key _ _ hz, hlo⟩
  · have part : ∀ a, (wb ++ [b])[a]? = some b' → (wb[a]? = some b') ∨ (a = wb.length ∧ b = b') := fun a ha => by
      rcases Nat.lt_or_ge a wb.length with hl | hl
      · rw [List.getElem?_append_left hl] at ha
        exact .inl ha
      · rw [List.getElem?_append_right hl] at ha
        have e : a = wb.length := by
          have := (List.getElem?_eq_some_iff.1 ha).1
          simp at this
          omega
        subst e
        rw [Nat.sub_self] at ha
        exact .inr ⟨rfl, by simpa using ha⟩
    rcases part a h1 with h1 | ⟨e1, rfl⟩
    · rcases part a' h2 with h2 | ⟨e2, rfl⟩
      · exact h.inj a a' b' h1 h2
      · exact absurd (List.mem_of_getElem? h1) hb
    · rcases part a' h2 with h2 | ⟨e2, -⟩
      · exact absurd (List.mem_of_getElem? h2) hb
      · rw [e1, e2]
end
/-- the facts under way: w0 where known began, w1 where this stretch began -/
structure EnvKn (w0 w1 W : World) (kb nb ab g r lo : Nat) (v : Value) (nv ac : List Bool) (wb : List Nat) (L : Prs) : Prop where
  b0 : Below w0.heap.size w0 W
  sz : w1.heap.size ≤ W.heap.size
  fr : ∀ k, k < w1.heap.size → k ≠ kb → k ≠ nb → k ≠ ab → k ∉ wb → W.heap[k]? = w1.heap[k]?
  head : W.heap[kb]? = some (.cells #[.slice (some ⟨g, 0, none⟩) r r, .slice (some ⟨nb, 0, none⟩) r r, .slice (some ⟨ab, 0, none⟩) r r, v] 98 (0, 0))
  n : BoolsAt W nb nv
  a : BoolsAt W ab ac
  m : MatAt W lo v wb L r
  lk : w0.heap.size ≤ kb ∧ w0.heap.size ≤ nb ∧ w0.heap.size ≤ ab
  hi : kb < lo ∧ nb < lo ∧ ab < lo
  dn : nb ≠ ab
section
variable {w0 w1 W W' : World} {kb nb ab g r lo : Nat} {v : Value} {nv ac : List Bool} {wb : List Nat} {L : Prs}
theorem EnvKn.kn (h : EnvKn w0 w1 W kb nb ab g r lo v nv ac wb L) : kb ≠ nb := fun e => by
  have h1 := h.head
  have h2 := h.n
  rw [e] at h1
  have := h1.symm.trans h2
  simp at this
theorem EnvKn.ka (h : EnvKn w0 w1 W kb nb ab g r lo v nv ac wb L) : kb ≠ ab := fun e => by
  have h1 := h.head
  have h2 := h.a
  rw [e] at h1
  have := h1.symm.trans h2
  simp at this
theorem EnvKn.kl (h : EnvKn w0 w1 W kb nb ab g r lo v nv ac wb L) : kb < W.heap.size := (Array.getElem?_eq_some_iff.1 h.head).1
theorem EnvKn.cells (h : EnvKn w0 w1 W kb nb ab g r lo v nv ac wb L) : W.cell? ⟨kb, 0, none⟩ = some (.slice (some ⟨g, 0, none⟩) r r) ∧ W.cell? ⟨kb, 1, none⟩ = some (.slice (some ⟨nb, 0, none⟩) r r) ∧ W.cell? ⟨kb, 2, none⟩ = some (.slice (some ⟨ab, 0, none⟩) r r) ∧ W.cell? ⟨kb, 3, none⟩ = some v ∧ W.frozen? ⟨kb, 3, none⟩ = false :=
  ⟨Go.Joins.cell_of_block h.head 0, Go.Joins.cell_of_block h.head 1, Go.Joins.cell_of_block h.head 2, Go.Joins.cell_of_block h.head 3, Go.Joins.unfrozen_of_block h.head 3⟩
theorem EnvKn.self (h : EnvKn w0 w1 W kb nb ab g r lo v nv ac wb L) : EnvKn w0 W W kb nb ab g r lo v nv ac wb L :=
  ⟨h.b0, Nat.le_refl _, fun _ _ _ _ _ _ => rfl, h.head, h.n, h.a, h.m, h.lk, h.hi, h.dn⟩
theorem EnvKn.after (h : EnvKn w0 w1 W kb nb ab g r lo v nv ac wb L) (hb : Below W.heap.size W W') : EnvKn w0 w1 W' kb nb ab g r lo v nv ac wb L :=
  ⟨h.b0.trans (hb.mono h.b0.size), Nat.le_trans h.sz hb.size, fun k hk a b c d => (hb.block k (Nat.lt_of_lt_of_le hk h.sz)).trans (h.fr k hk a b c d), (hb.block kb h.kl).trans h.head, h.n.below hb h.n.lt, h.a.below hb h.a.lt, h.m.keep (fun k _ hk => hb.block k hk), h.lk, h.hi, h.dn⟩
theorem EnvKn.alloc (h : EnvKn w0 w1 W kb nb ab g r lo v nv ac wb L) (o : Obj) : EnvKn w0 w1 (W.alloc o) kb nb ab g r lo v nv ac wb L := h.after ((Below.refl _ _).alloc (Nat.le_refl _) _)
theorem EnvKn.drew (h : EnvKn w0 w1 W kb nb ab g r lo v nv ac wb L) : EnvKn w0 w1 W.drew kb nb ab g r lo v nv ac wb L := h.after (Below.refl _ _).drew
theorem EnvKn.rows (h : EnvKn w0 w1 W kb nb ab g r lo v nv ac wb L) {b : Nat} (hb : b ∈ wb) : lo ≤ b := by
  obtain ⟨i, hi, e⟩ := List.mem_iff_getElem.1 hb
  exact (h.m.row i b (by rw [List.getElem?_eq_getElem hi, e])).2
/-- a call that writes the row of those that need no place -/
theorem EnvKn.need (h : EnvKn w0 w1 W kb nb ab g r lo v nv ac wb L) {nv' : List Bool} (hb : BoolsAt W' nb nv') (hg : W.grownBy W' (some nb)) : EnvKn w0 w1 W' kb nb ab g r lo v nv' ac wb L := by
  have key : ∀ k, k < W.heap.size → k ≠ nb → W'.heap[k]? = W.heap[k]? := fun k hk hn => hg.block k hk (fun e => hn (Option.some.inj e))
  refine ⟨h.b0.grown hg h.b0.size (fun k e => by cases e; exact h.lk.2.1), Nat.le_trans h.sz hg.size, fun k hk a b c d => (key k (Nat.lt_of_lt_of_le hk h.sz) b).trans (h.fr k hk a b c d), (key kb h.kl h.kn).trans h.head, hb, (key ab h.a.lt (Ne.symm h.dn)).trans h.a, h.m.keep (fun k hl hk => key k hk (by have := h.hi; omega)), h.lk, h.hi, h.dn⟩
theorem EnvKn.setN (h : EnvKn w0 w1 W kb nb ab g r lo v nv ac wb L) (j : Nat) (b : Bool) : EnvKn w0 w1 (W.setCell ⟨nb, j, none⟩ (.bool b)) kb nb ab g r lo v (nv.set j b) ac wb L := h.need (h.n.set j b) (grown_setCell W ⟨nb, j, none⟩ _)
theorem EnvKn.setA (h : EnvKn w0 w1 W kb nb ab g r lo v nv ac wb L) (j : Nat) (b : Bool) : EnvKn w0 w1 (W.setCell ⟨ab, j, none⟩ (.bool b)) kb nb ab g r lo v nv (ac.set j b) wb L := by
  have key : ∀ k, k ≠ ab → (W.setCell ⟨ab, j, none⟩ (.bool b)).heap[k]? = W.heap[k]? := fun k hn => heap_other _ hn
  refine ⟨h.b0.setCell (p := ⟨ab, j, none⟩) h.lk.2.2 _, by rw [World.size_setCell]; exact h.sz, fun k hk a b c d => (key k c).trans (h.fr k hk a b c d), (key kb h.ka).trans h.head, (key nb h.dn).trans h.n, h.a.set j b, h.m.keep (fun k hl hk => key k (by have := h.hi; omega)), h.lk, h.hi, h.dn⟩
theorem EnvKn.setM (h : EnvKn w0 w1 W kb nb ab g r lo v nv ac wb L) {i b c : Nat} (hb : wb[i]? = some b) (hc : c < r) : EnvKn w0 w1 (W.setCell ⟨b, c, none⟩ (.bool true)) kb nb ab g r lo v nv ac wb (L ++ [((i : Int), (c : Int))]) := by
  have hlo := (h.m.row i b hb).2
  have hh := h.hi
  have key : ∀ k, k ≠ b → (W.setCell ⟨b, c, none⟩ (.bool true)).heap[k]? = W.heap[k]? := fun k hn => heap_other _ hn
  refine ⟨h.b0.setCell (p := ⟨b, c, none⟩) (by show w0.heap.size ≤ b; have := h.lk; omega) _, by rw [World.size_setCell]; exact h.sz, fun k hk a b' c' d => (key k (fun e => d (by rw [e]; exact List.mem_of_getElem? hb))).trans (h.fr k hk a b' c' d), (key kb (by omega)).trans h.head, (key nb (by omega)).trans h.n, (key ab (by omega)).trans h.a, h.m.set hb hc, h.lk, h.hi, h.dn⟩
/-- one row more -/
theorem EnvKn.app (h : EnvKn w0 w1 W kb nb ab g r lo v nv ac wb L) {b : Nat} (hw : w1.heap.size ≤ lo) (hz : BoolsAt W b (List.replicate r false)) (hlo : lo ≤ b) (hb : b ∉ wb) (hL : ∀ c : Nat, (((wb.length : Nat) : Int), (c : Int)) ∉ L) {v' : Value}
    (ho : W'.ownsRow lo 84 1 v' (wb.map (rowV r) ++ [rowV r b]).length (wb.map (rowV r) ++ [rowV r b])) (hg : W.grownBy W' v.ownBlock) : EnvKn w0 w1 (W'.setCell ⟨kb, 3, none⟩ v') kb nb ab g r lo v' nv ac (wb ++ [b]) L := by
  have hvb : ∀ k, v.ownBlock = some k → lo ≤ k := fun k hk => (h.m.own.lt k hk).1
  have hh := h.hi
  have key : ∀ k, k < W.heap.size → k < lo → k ≠ kb → (W'.setCell ⟨kb, 3, none⟩ v').heap[k]? = W.heap[k]? := fun k hk hl hn => (heap_other _ hn).trans (hg.block k hk (fun e => by have := hvb k e.symm; omega))
  have e3 : W'.heap[kb]? = W.heap[kb]? := hg.block kb h.kl (fun e => by have := hvb kb e.symm; omega)
  refine ⟨(h.b0.grown hg h.b0.size (fun k e => by have := hvb k e; have := h.lk; omega)).setCell (p := ⟨kb, 3, none⟩) h.lk.1 _, by rw [World.size_setCell]; exact Nat.le_trans h.sz hg.size, fun k hk a b' c d => (key k (Nat.lt_of_lt_of_le hk h.sz) (by omega) a).trans (h.fr k hk a b' c (fun e => d (List.mem_append_left _ e))), ?_, (key nb h.n.lt (by omega) (Ne.symm h.kn)).trans h.n, (key ab h.a.lt (by omega) (Ne.symm h.ka)).trans h.a, ?_, h.lk, h.hi, h.dn⟩
  · rw [heap_set (o := 3) (e3.trans h.head) v']
    rfl
  · exact (h.m.app hz hlo hb hL ho hg).keep fun k hl _ => heap_other _ (by omega)
end
section
variable {w0 w1 W W' : World} {kb nb ab g r lo : Nat} {v : Value} {nv ac : List Bool} {wb : List Nat} {L : Prs}
theorem EnvKn.at_ (h : EnvKn w0 w1 W kb nb ab g r lo v nv ac wb L) {k : Nat} (hk : k < w1.heap.size) (h1 : k ≠ kb) (h2 : k ≠ nb) (h3 : k ≠ ab) (h4 : k < lo) : W.heap[k]? = w1.heap[k]? := h.fr k hk h1 h2 h3 (fun hm => by have := h.rows hm; omega)
theorem EnvKn.lts (h : EnvKn w0 w1 W kb nb ab g r lo v nv ac wb L) : kb < W.heap.size ∧ nb < W.heap.size ∧ ab < W.heap.size ∧ ∀ b ∈ wb, b < W.heap.size :=
  ⟨h.kl, h.n.lt, h.a.lt, fun b hb => by
    obtain ⟨i, hi, e⟩ := List.mem_iff_getElem.1 hb
    exact (h.m.row i b (by rw [List.getElem?_eq_getElem hi, e])).1.lt⟩
/-- a block that came behind all of the facts' own -/
theorem EnvKn.late {w2 : World} (h : EnvKn w0 w1 W kb nb ab g r lo v nv ac wb L) {v' : Value} {nv' ac' : List Bool} {L' : Prs} (h2 : EnvKn w0 w2 w2 kb nb ab g r lo v' nv' ac' wb L') {k : Nat} (hk : k < w1.heap.size) (hl : w2.heap.size ≤ k) : W.heap[k]? = w1.heap[k]? := by
  obtain ⟨a, b, c, d⟩ := h2.lts
  exact h.fr k hk (by omega) (by omega) (by omega) (fun hm => by have := d k hm; omega)
/-- a block of numbers is none of the facts' own -/
theorem EnvKn.three (h : EnvKn w0 w1 W kb nb ab g r lo v nv ac wb L) {v' : Value} {nv' ac' : List Bool} {L' : Prs} (h1 : EnvKn w0 w1 w1 kb nb ab g r lo v' nv' ac' wb L') {k : Nat} {cs : Array Value} {E : TypeId} (hE : E ≠ 4) (hE2 : E ≠ 98) (hg : w1.heap[k]? = some (.cells cs E (0, 0))) : W.heap[k]? = w1.heap[k]? := by
  refine h.fr k (Array.getElem?_eq_some_iff.1 hg).1 (fun e => ?_) (fun e => ?_) (fun e => ?_) (fun hm => ?_)
  · have := h1.head
    rw [← e, hg] at this
    simp at this
    exact hE2 this.2
  · have := h1.n
    rw [← e] at this
    have := hg.symm.trans this
    simp at this
    exact hE this.2
  · have := h1.a
    rw [← e] at this
    have := hg.symm.trans this
    simp at this
    exact hE this.2
  · obtain ⟨i, hi, e⟩ := List.mem_iff_getElem.1 hm
    have := (h1.m.row i k (by rw [List.getElem?_eq_getElem hi, e])).1
    have := hg.symm.trans this
    simp at this
    exact hE this.2
theorem mrow_congr {L L' : Prs} (hL : ∀ p, p ∈ L ↔ p ∈ L') (r a : Nat) : mrow L r a = mrow L' r a := by
  unfold mrow
  apply List.map_congr_left
  intro i _
  rw [decide_eq_decide]
  exact hL _
theorem EnvKn.congr {L' : Prs} (h : EnvKn w0 w1 W kb nb ab g r lo v nv ac wb L) (hL : ∀ p, p ∈ L ↔ p ∈ L') : EnvKn w0 w1 W kb nb ab g r lo v nv ac wb L' :=
  ⟨h.b0, h.sz, h.fr, h.head, h.n, h.a, ⟨h.m.own, fun a b hb => by rw [← mrow_congr hL]; exact h.m.row a b hb, h.m.inj⟩, h.lk, h.hi, h.dn⟩
end
theorem less_snoc (l : List Int) {j : Nat} {q : Int} (d : Int) (h : l[j]? = some q) : less (l.take (j + 1)) d = less (l.take j) d ++ if q = d then [] else [q] := by
  unfold less
  rw [List.take_add_one, h, Option.toList_some, List.filter_append]
  congr 1
  by_cases e : q = d <;> simp [e]
theorem anl_mem {f : Fn} {rc : List Bool} {s : Ins} {r k : Nat} {t : Tw} (h : t ∈ anl f rc s r k) : ∃ x, f.bl[t.1]? = some x ∧ rc[t.1]? = some true ∧ x.ex.k = 4 ∧ t.2.1 = less (liveIn rc s x.ex.els.toNat) x.ex.d ∧ t.2.2 = among t.2.1 (btwOf f.bl x.ex r) := by
  unfold anl at h
  obtain ⟨b, -, hb⟩ := List.mem_flatMap.1 h
  unfold twAt at hb
  split at hb
  · rename_i x hx
    split at hb
    · rename_i h9
      rw [List.mem_singleton] at hb
      subst hb
      exact ⟨x, hx, h9.1, h9.2, rfl, rfl⟩
    · cases hb
  · cases hb
theorem tw_at {W : World} {B : Nat} {A : Option Addr} {xs : List Value} {ts : List Tw} (h : Rd W B A xs) (ht : TwsAt W xs ts) {j : Nat} (hj : j < ts.length) : ∃ ad p t A1 c1 A2 c2, A = some ad ∧ ts[j]? = some t ∧ ad.add (j * 3) = p ∧ p.block < B ∧ W.cell? p = some (.int .i64 (t.1 : Int)) ∧ W.cell? ⟨p.block, p.off + 1, none⟩ = some (.slice A1 t.2.1.length c1) ∧ W.cell? ⟨p.block, p.off + 2, none⟩ = some (.slice A2 t.2.2.length c2) ∧ RdT W A1 t.2.1 ∧ RdT W A2 t.2.2 := by
  have hl := ht.len
  obtain ⟨ad, e, hb, hc⟩ := h (by intro h0; rw [h0] at hl; simp at hl; omega)
  have hg : ts[j]? = some ts[j] := List.getElem?_eq_getElem hj
  obtain ⟨A1, c1, A2, c2, g0, g1, g2, g3, g4⟩ := ht.get j _ hg
  have key : ∀ (r : Nat) (v : Value), xs[j * 3 + r]? = some v → W.cell? ((ad.add (j * 3)).add r) = some v := fun r v hv => by
    rw [M.add_add]
    exact hc _ _ hv
  have k0 := key 0 _ g0
  have e0 : (ad.add (j * 3)).add 0 = ad.add (j * 3) := rfl
  rw [e0] at k0
  exact ⟨ad, _, _, A1, c1, A2, c2, e, hg, rfl, by rw [M.block_add]; exact hb, k0, key 1 _ g1, key 2 _ g2, g3, g4⟩
theorem acL_snoc (f : Fn) (rc : List Bool) (s : Ins) {ts : List Tw} {j : Nat} {t : Tw} (h : ts[j]? = some t) : acL f rc s (ts.take (j + 1)) = acL f rc s (ts.take j) ++ acT f rc s t := by
  unfold acL
  rw [List.take_add_one, h, Option.toList_some, List.flatMap_append]
  simp
theorem wdL_snoc (f : Fn) (rc : List Bool) (s : Ins) (r : Nat) {ts : List Tw} {j : Nat} {t : Tw} (h : ts[j]? = some t) : wdL f rc s r (ts.take (j + 1)) = wdL f rc s r (ts.take j) ++ wdT f r t := by
  unfold wdL
  rw [List.take_add_one, h, Option.toList_some, List.flatMap_append]
  simp
section
variable {w0 w1 W W' : World} {kb nb ab g r lo : Nat} {v : Value} {nv ac : List Bool} {wb : List Nat} {L : Prs}
theorem EnvKn.trans {v' : Value} {nv' ac' : List Bool} {L' : Prs} (h : EnvKn w0 w1 W kb nb ab g r lo v nv ac wb L) (k : EnvKn w0 W W' kb nb ab g r lo v' nv' ac' wb L') : EnvKn w0 w1 W' kb nb ab g r lo v' nv' ac' wb L' :=
  ⟨k.b0, Nat.le_trans h.sz k.sz, fun j hj a b c d => (k.fr j (Nat.lt_of_lt_of_le hj h.sz) a b c d).trans (h.fr j hj a b c d), k.head, k.n, k.a, k.m, k.lk, k.hi, k.dn⟩
/-- a write elsewhere -/
theorem EnvKn.upd (h : EnvKn w0 w1 W kb nb ab g r lo v nv ac wb L) {kx : Nat} (hb : Below w0.heap.size w0 W') (hk : ∀ k, k ≠ kx → W'.heap[k]? = W.heap[k]?) (hx : kx < lo) (h1 : kx ≠ kb) (h2 : kx ≠ nb) (h3 : kx ≠ ab) : EnvKn w0 W' W' kb nb ab g r lo v nv ac wb L :=
  ⟨hb, Nat.le_refl _, fun _ _ _ _ _ _ => rfl, (hk kb (Ne.symm h1)).trans h.head, (hk nb (Ne.symm h2)).trans h.n, (hk ab (Ne.symm h3)).trans h.a, h.m.keep (fun k hl _ => hk k (by omega)), h.lk, h.hi, h.dn⟩
end
theorem rdp_own_any {W : World} {base size n c : Nat} {e : TypeId} {A : Option Addr} {xs : List Value} (h : W.ownsRow base e size (.slice A n c) n xs) : RdP W (fun g => base ≤ g ∧ g < W.heap.size) A xs := fun hn => by
  obtain ⟨ad, e1, hb, hc⟩ := Rd.of_own h hn
  refine ⟨ad, e1, ⟨?_, hb⟩, hc⟩
  rcases h.2 with ⟨e', -⟩ | ⟨g, cap, cur, e', hb', hg, -⟩
  · injection e' with e2
    rw [e1] at e2
    cases e2
  · injection e' with e2
    rw [e1] at e2
    cases e2
    exact hb'
theorem pm1 (X Y : Prs) (a b z : Int × Int) : z ∈ (X ++ Y) ++ [a] ++ [b] ↔ z ∈ X ++ (Y ++ [a, b]) := by simp
theorem pm2 (X Y : Prs) (a b z : Int × Int) : z ∈ (X ++ Y) ++ [b] ++ [a] ↔ z ∈ X ++ (Y ++ [a, b]) := by
  simp only [List.mem_append, List.mem_singleton, List.mem_cons, List.not_mem_nil, or_false]
  constructor
  · rintro (((h | h) | h) | h) <;> simp [h]
  · rintro (h | h | h | h) <;> simp [h]
/-! what is live across calls is in range; none clashes with itself -/
theorem evR_lt {r sec : Nat} (hsec : sec < 2 ^ r) : ∀ (ops : List Op) (m : Nat), m < 2 ^ r → (∀ o ∈ ops, ∀ n ∈ readsOp o, 0 ≤ n ∧ n < r) → ∀ e ∈ evR sec ops m, e.2 < 2 ^ r
  | [], m, _, _, e, he => by cases he
  | o :: l, m, hm, ho, e, he => by
    rcases List.mem_cons.1 he with rfl | he
    · exact behind_lt hm o hsec
    · exact evR_lt hsec l _ (back_lt hm o (ho o List.mem_cons_self) hsec) (fun o' h' => ho o' (List.mem_cons_of_mem _ h')) e he
theorem evs_lt {r : Nat} {bl : List Bl} {rc : List Bool} {s : Ins} (hbl : ∀ x ∈ bl, BlOk r x) (hs : InsOk r s) (n : Nat) : ∀ e ∈ evs bl rc s n, e.2 < 2 ^ r := fun e he => by
  unfold evs at he
  obtain ⟨i, -, hi⟩ := List.mem_flatMap.1 he
  unfold evAt at hi
  split at hi
  · rename_i x l hx _
    split at hi
    · have hxb := hbl x (List.mem_of_getElem? hx)
      exact evR_lt (second_lt hs) _ _ (point_lt hs (second_lt hs) l hxb _) (fun o ho => hxb.reads o (List.mem_reverse.1 ho)) e hi
    · cases hi
  · cases hi
theorem across_lt {r : Nat} {bl : List Bl} {rc : List Bool} {s : Ins} (hbl : ∀ x ∈ bl, BlOk r x) (hs : InsOk r s) : across bl rc s < 2 ^ r := by
  unfold across
  have key : ∀ (l : List (Op × Nat)) (m : Nat), m < 2 ^ r → (∀ e ∈ l, e.2 < 2 ^ r) → l.foldl acrossEv m < 2 ^ r := by
    intro l
    induction l with
    | nil => intro m hm _; exact hm
    | cons e l ih =>
      intro m hm hl
      rw [List.foldl_cons]
      refine ih _ ?_ (fun e' h' => hl e' (List.mem_cons_of_mem _ h'))
      unfold acrossEv
      split
      · exact join_lt hm (hl e List.mem_cons_self)
      · exact hm
  exact key _ 0 (Nat.two_pow_pos r) (evs_lt hbl hs _)
def Irr (C : Cl) : Prop := ∀ k, (C k).testBit k = false
theorem put_bit (C : Cl) (d r k j : Nat) : (C.put d r k).testBit j = ((C k).testBit j || (decide (k = d) && decide (r = j))) := by
  unfold Cl.put
  split
  · rename_i e
    rw [Nat.testBit_or, Nat.testBit_two_pow]
    simp [e]
  · rename_i e
    simp [e]
theorem Irr.put {C : Cl} (h : Irr C) {d r : Nat} (hne : d ≠ r) : Irr (C.put d r) := fun k => by
  rw [put_bit, h k]
  by_cases e : k = d
  · subst e
    simp
    omega
  · simp [e]
theorem Irr.wr1 {C : Cl} (h : Irr C) (d : Nat) (but : Int) {x : Int} (hx : 0 ≤ x) : Irr (fl.wr1 d but C x) := by
  unfold fl.wr1
  split
  · rename_i e
    have : d ≠ x.toNat := by omega
    exact (h.put this).put (Ne.symm this)
  · exact h
theorem Irr.wr {C : Cl} (h : Irr C) (d : Nat) (but : Int) (m : Nat) : Irr (fl.wr d but m C) := by
  unfold fl.wr
  have key : ∀ (l : List Int) (C : Cl), Irr C → (∀ x ∈ l, 0 ≤ x) → Irr (l.foldl (fl.wr1 d but) C) := by
    intro l
    induction l with
    | nil => intro C hC _; exact hC
    | cons x l ih => intro C hC hl; exact ih _ (hC.wr1 d but (hl x List.mem_cons_self)) (fun y hy => hl y (List.mem_cons_of_mem _ hy))
  refine key _ C h (fun x hx => ?_)
  unfold list at hx
  obtain ⟨j, -, rfl⟩ := List.mem_map.1 hx
  exact Int.natCast_nonneg j
theorem clash_irr (p : Nat) (bl : List Bl) (rc : List Bool) (s : Ins) : Irr (clash p bl rc s) := by
  have h1 : Irr (cl1 bl rc s) := by
    unfold cl1
    have key : ∀ (l : List (Op × Nat)) (C : Cl), Irr C → Irr (l.foldl clEv C) := by
      intro l
      induction l with
      | nil => intro C hC; exact hC
      | cons e l ih =>
        intro C hC
        refine ih _ ?_
        unfold clEv
        split
        · exact hC
        · exact hC.wr _ _ _
    exact key _ _ (fun k => Nat.zero_testBit k)
  have h2 : Irr (cl2 bl rc s) := by
    unfold cl2
    have key : ∀ (l : List Nat) (C : Cl), Irr C → Irr (l.foldl (clSet bl rc s) C) := by
      intro l
      induction l with
      | nil => intro C hC; exact hC
      | cons i l ih =>
        intro C hC
        refine ih _ ?_
        unfold clSet
        split
        · split
          · exact (hC.wr _ _ _).wr _ _ _
          · exact hC
        · exact hC
    exact key _ _ h1
  unfold clash
  have key : ∀ (l : List Nat) (C : Cl), Irr C → Irr (l.foldl (clPar s) C) := by
    intro l
    induction l with
    | nil => intro C hC; exact hC
    | cons i l ih =>
      intro C hC
      refine ih _ ?_
      unfold clPar
      split
      · exact hC.wr _ _ _
      · exact hC
  exact key _ _ h2
theorem clK_irr (f : Fn) (rc : List Bool) (s : Ins) (a : Nat) : (a : Int) ∉ clK f rc s a := fun h => by
  unfold clK list at h
  obtain ⟨j, hj, e⟩ := List.mem_map.1 h
  rw [List.mem_filter] at hj
  have : j = a := by have := Int.ofNat.inj e; exact this
  subst this
  rw [clash_irr _ _ _ _ j] at hj
  exact absurd hj.2 (by simp)
/-- where the facts lie -/
structure KLay where
  (g nb ab : Nat) (A : Nat → Option Addr) (c : Nat → Nat) (WA : Option Addr) (wc : Nat) (wb : Nat → Nat)
def kV (F : KLay) (r : Nat) : Value := .agg #[.slice (some ⟨F.g, 0, none⟩) r r, .slice (some ⟨F.nb, 0, none⟩) r r, .slice (some ⟨F.ab, 0, none⟩) r r, .slice F.WA r F.wc]
/-- the facts stand below block B -/
structure KAt (W : World) (B : Nat) (F : KLay) (cl : Nat → List Int) (nv ac : List Bool) (L : Prs) (r : Nat) : Prop where
  g : RowsAt W B (some ⟨F.g, 0, none⟩) ((List.range r).map cl) F.A F.c
  n : BoolsAt W F.nb nv
  nl : F.nb < B
  a : BoolsAt W F.ab ac
  al : F.ab < B
  row : Rd W B F.WA ((List.range r).map fun a => rowV r (F.wb a))
  m : ∀ a, a < r → BoolsAt W (F.wb a) (mrow L r a) ∧ F.wb a < B
theorem KAt.keep {W W' : World} {B B' : Nat} {F : KLay} {cl : Nat → List Int} {nv ac : List Bool} {L : Prs} {r : Nat} (h : KAt W B F cl nv ac L r) (hk : ∀ k, k < B → W'.heap[k]? = W.heap[k]?) (hB : B ≤ B') : KAt W' B' F cl nv ac L r :=
  ⟨h.g.keep (fun p hp => cell_of_heap (hk _ hp)) hB, (hk _ h.nl).trans h.n, Nat.lt_of_lt_of_le h.nl hB, (hk _ h.al).trans h.a, Nat.lt_of_lt_of_le h.al hB, (h.row.keep fun p hp => cell_of_heap (hk _ hp)).more hB, fun a ha => ⟨(hk _ (h.m a ha).2).trans (h.m a ha).1, Nat.lt_of_lt_of_le (h.m a ha).2 hB⟩⟩
theorem KAt.below {W W' : World} {B B' : Nat} {F : KLay} {cl : Nat → List Int} {nv ac : List Bool} {L : Prs} {r : Nat} (h : KAt W B F cl nv ac L r) (hb : Below B W W') (hB : B ≤ B') : KAt W' B' F cl nv ac L r := h.keep (fun k hk => hb.block k hk) hB
theorem EnvKn.kat {w0 w1 W : World} {kb nb ab g r lo c0 : Nat} {A0 : Option Addr} {nv ac : List Bool} {wb : List Nat} {L : Prs} (h : EnvKn w0 w1 W kb nb ab g r lo (.slice A0 r c0) nv ac wb L) (hw : wb.length = r) {P : Nat → Prop} {cl : Nat → List Int} {A : Nat → Option Addr} {c : Nat → Nat} (hrows : RowsP W P (some ⟨g, 0, none⟩) ((List.range r).map cl) A c) (hP : ∀ k, P k → k < W.heap.size) :
    KAt W W.heap.size ⟨g, nb, ab, A, c, A0, c0, fun a => (wb[a]?).getD 0⟩ cl nv ac L r := by
  have ho := h.m.own
  rw [hw] at ho
  have hm : (List.range r).map (fun a => rowV r ((wb[a]?).getD 0)) = wb.map (rowV r) := by
    apply List.ext_getElem?
    intro i
    rw [List.getElem?_map, List.getElem?_map]
    by_cases hi : i < r
    · have hg : wb[i]? = some wb[i] := List.getElem?_eq_getElem (by omega)
      rw [List.getElem?_range hi, hg]
      simp [hg]
    · rw [List.getElem?_eq_none (by simp; omega), List.getElem?_eq_none (by omega)]
      rfl
  refine ⟨hrows.at hP, h.n, h.n.lt, h.a, h.a.lt, ?_, fun a ha => ?_⟩
  · show Rd W W.heap.size A0 ((List.range r).map fun a => rowV r ((wb[a]?).getD 0))
    rw [hm]
    exact Rd.of_own ho
  · have hg : wb[a]? = some wb[a] := List.getElem?_eq_getElem (by omega)
    have hb := h.m.row a _ hg
    show BoolsAt W ((wb[a]?).getD 0) (mrow L r a) ∧ (wb[a]?).getD 0 < W.heap.size
    rw [hg]
    exact ⟨hb.1, hb.1.lt⟩
end Go.Proofs.YthgbmhpfblgjcaaGreatDoor.fl
