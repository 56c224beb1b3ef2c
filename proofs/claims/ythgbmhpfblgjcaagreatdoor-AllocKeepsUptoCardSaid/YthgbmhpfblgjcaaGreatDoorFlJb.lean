/-
  A made row of lists, filled place by place. No program's code in sight.
-/
import Derived.Test.YthgbmhpfblgjcaaGreatDoorFlG
import Derived.Test.YthgbmhpfblgjcaaGreatDoorPm
set_option linter.unusedVariables false
set_option linter.unusedSimpArgs false
namespace Go.Proofs.YthgbmhpfblgjcaaGreatDoor.fl
open Go.RowKit Go.Shelf
open M T ty
set_option linter.unusedVariables false
/-- a search under way: what is seen, what is to do, the block at hand and those of its edges that are done -/
structure Srch (tt : List (List Int)) (but a : Int) (seen : List Bool) (todo : List Int) (ex : Int) (dn : List Int) : Prop where
  len : seen.length = tt.length
  sound : ∀ b : Nat, seen[b]? = some true → Way tt but a b
  start : seen[a.toNat]? = some true
  mem : ∀ k ∈ todo, 0 ≤ k ∧ seen[k.toNat]? = some true
  clos : ∀ b : Nat, seen[b]? = some true → (b : Int) ∉ todo → (b : Int) ≠ ex → ∀ l, tt[b]? = some l → ∀ c ∈ l, c ≠ but → seen[c.toNat]? = some true
  cur : ∀ c ∈ dn, c ≠ but → seen[c.toNat]? = some true
def unseen (l : List Bool) : Nat := l.count false
theorem unseen_set : ∀ (l : List Bool) (k : Nat), l[k]? = some false → unseen (l.set k true) + 1 = unseen l
  | [], k, h => by simp at h
  | b :: l, 0, h => by
    simp at h
    subst h
    simp [unseen]
  | b :: l, k + 1, h => by
    simp at h
    have := unseen_set l k h
    unfold unseen at this ⊢
    rw [List.set_cons_succ, List.count_cons, List.count_cons]
    omega
theorem set_true {l : List Bool} {k j : Nat} (h : l[j]? = some true) (hk : k < l.length) : (l.set k true)[j]? = some true := by
  rw [List.getElem?_set]
  split
  · rename_i e; subst e; rfl
  · exact h
theorem set_get {l : List Bool} {k : Nat} (hk : k < l.length) : (l.set k true)[k]? = some true := by rw [List.getElem?_set, if_pos rfl, if_pos hk]
theorem set_was {l : List Bool} {k j : Nat} (h : (l.set k true)[j]? = some true) : j = k ∨ l[j]? = some true := by
  rw [List.getElem?_set] at h
  split at h
  · rename_i e; exact .inl e.symm
  · exact .inr h
section
variable {tt : List (List Int)} {but a : Int} {seen : List Bool} {todo dn l : List Int} {ex : Int}
theorem Srch.init (hc : Closed tt) (ha : 0 ≤ a ∧ a < tt.length) (hb : a ≠ but) : Srch tt but a ((List.replicate tt.length false).set a.toNat true) [a] (-1) [] := by
  have hl : a.toNat < (List.replicate tt.length false).length := by simp; omega
  have key : ∀ b : Nat, ((List.replicate tt.length false).set a.toNat true)[b]? = some true → (b : Int) = a := fun b h => by
    rcases set_was h with h | h
    · omega
    · rw [List.getElem?_replicate] at h
      split at h <;> cases h
  refine ⟨by simp, fun b h => ?_, set_get hl, fun k hk => ?_, fun b h hn => ?_, fun c hc => by cases hc⟩
  · rw [key b h]; exact .here hb
  · rw [List.mem_singleton] at hk
    subst hk
    exact ⟨ha.1, set_get hl⟩
  · exact absurd (by simp [key b h]) hn
theorem Srch.pop {k : Int} (h : Srch tt but a seen (todo ++ [k]) (-1) []) : Srch tt but a seen todo k [] :=
  ⟨h.len, h.sound, h.start, fun j hj => h.mem j (List.mem_append_left _ hj), fun b hb hn hne l hl c hc hcb => h.clos b hb (by simp [hn, hne]) (by omega) l hl c hc hcb, fun c hc => by cases hc⟩
theorem Srch.old {c : Int} (h : Srch tt but a seen todo ex dn) (hc : c = but ∨ seen[c.toNat]? = some true) : Srch tt but a seen todo ex (dn ++ [c]) :=
  ⟨h.len, h.sound, h.start, h.mem, h.clos, fun d hd hdb => by
    rcases List.mem_append.1 hd with hd | hd
    · exact h.cur d hd hdb
    · rw [List.mem_singleton] at hd
      subst hd
      rcases hc with hc | hc
      · exact absurd hc hdb
      · exact hc⟩
theorem Srch.new {k c : Nat} (h : Srch tt but a seen todo k dn) (hk : seen[k]? = some true) (hl : tt[k]? = some l) (hm : (c : Int) ∈ l) (hcb : (c : Int) ≠ but) (hc : c < seen.length) : Srch tt but a (seen.set c true) (todo ++ [(c : Int)]) k (dn ++ [(c : Int)]) := by
  refine ⟨by simpa using h.len, fun b hb => ?_, set_true h.start hc, fun j hj => ?_, fun b hb hn hne l' hl' d hd hdb => ?_, fun d hd hdb => ?_⟩
  · rcases set_was hb with rfl | hb
    · exact .step (h.sound k hk) (by omega) (by simpa using hl) hm hcb
    · exact h.sound b hb
  · rcases List.mem_append.1 hj with hj | hj
    · exact ⟨(h.mem j hj).1, set_true (h.mem j hj).2 hc⟩
    · rw [List.mem_singleton] at hj
      subst hj
      exact ⟨by omega, by simpa using set_get hc⟩
  · rw [List.mem_append, List.mem_singleton] at hn
    rcases set_was hb with rfl | hb
    · exact absurd (.inr rfl) hn
    · exact set_true (h.clos b hb (fun h => hn (.inl h)) hne l' hl' d hd hdb) hc
  · rcases List.mem_append.1 hd with hd | hd
    · exact set_true (h.cur d hd hdb) hc
    · rw [List.mem_singleton] at hd
      subst hd
      simpa using set_get hc
theorem Srch.fin {k : Nat} (h : Srch tt but a seen todo k l) (hl : tt[k]? = some l) : Srch tt but a seen todo (-1) [] :=
  ⟨h.len, h.sound, h.start, h.mem, fun b hb hn _ l' hl' c hc hcb => by
    by_cases e : (b : Int) = k
    · have : b = k := by omega
      subst this
      rw [hl] at hl'
      cases hl'
      exact h.cur c hc hcb
    · exact h.clos b hb hn e l' hl' c hc hcb, fun c hc => by cases hc⟩
theorem Srch.found (h : Srch tt but a seen [] (-1) []) (ha : 0 ≤ a) (hcl : Closed tt) : Found tt but a seen := by
  refine ⟨h.len, fun b hb => ⟨h.sound b, fun hw => ?_⟩⟩
  have key : ∀ d : Int, Way tt but a d → 0 ≤ d ∧ seen[d.toNat]? = some true := by
    intro d hd
    induction hd with
    | here _ => exact ⟨ha, h.start⟩
    | step _ h0 hl hm hne ih =>
      obtain ⟨i0, i1⟩ := ih
      have hc := hcl _ (List.mem_of_getElem? hl) _ hm
      refine ⟨hc.1, h.clos _ i1 (by simp) (by omega) _ hl _ hm hne⟩
  simpa using (key b hw).2
end
/-! lists of lists -/
structure RowsAt (W : World) (B : Nat) (TA : Option Addr) (ls : List (List Int)) (A : Nat → Option Addr) (c : Nat → Nat) : Prop where
  row : 0 < ls.length → ∃ ad, TA = some ad ∧ ad.block < B ∧ ∀ j l, ls[j]? = some l → W.cell? (ad.add j) = some (.slice (A j) l.length (c j))
  rd : ∀ j l, ls[j]? = some l → Rd W B (A j) (ints l)
section
variable {W W' : World} {B B' : Nat} {TA : Option Addr} {ls : List (List Int)} {A : Nat → Option Addr} {c : Nat → Nat}
theorem RowsAt.keep (h : RowsAt W B TA ls A c) (hk : ∀ p : Addr, p.block < B → W'.cell? p = W.cell? p) (hB : B ≤ B') : RowsAt W' B' TA ls A c := by
  refine ⟨fun h0 => ?_, fun j l hj => ((h.rd j l hj).keep hk).more hB⟩
  obtain ⟨ad, e, hb, hc⟩ := h.row h0
  exact ⟨ad, e, Nat.lt_of_lt_of_le hb hB, fun j l hj => (hk _ (by rw [M.block_add]; exact hb)).trans (hc j l hj)⟩
theorem RowsAt.below (h : RowsAt W B TA ls A c) (hb : Below B W W') : RowsAt W' B TA ls A c := h.keep (fun p hp => hb.cell hp) (Nat.le_refl _)
theorem RowsAt.more (h : RowsAt W B TA ls A c) (hB : B ≤ B') : RowsAt W B' TA ls A c := h.keep (fun p hp => rfl) hB
theorem row_at (h : RowsAt W B TA ls A c) {k : Nat} (hk : k < ls.length) : ∃ ad p l, TA = some ad ∧ ls[k]? = some l ∧ ad.add k = p ∧ p.block < B ∧ W.cell? p = some (.slice (A k) l.length (c k)) ∧ Rd W B (A k) (ints l) := by
  obtain ⟨ad, e, hb, hc⟩ := h.row (by omega)
  have hg : ls[k]? = some ls[k] := List.getElem?_eq_getElem hk
  exact ⟨ad, _, _, e, hg, rfl, by rw [M.block_add]; exact hb, hc k _ hg, h.rd k _ hg⟩
end
def bools (l : List Bool) : List Value := l.map .bool
theorem bools_length (l : List Bool) : (bools l).length = l.length := by simp [bools]
/-- truths in a block -/
def BoolsAt (W : World) (g : Nat) (l : List Bool) : Prop := W.heap[g]? = some (.cells (bools l).toArray 4 (0, 0))
section
variable {W W' : World} {g : Nat} {l : List Bool}
theorem BoolsAt.cell (h : BoolsAt W g l) {j : Nat} {b : Bool} (hj : l[j]? = some b) : W.cell? ⟨g, j, none⟩ = some (.bool b) := by
  rw [Go.Joins.cell_of_block h j]
  simp [bools, hj]
theorem BoolsAt.lt (h : BoolsAt W g l) : g < W.heap.size := (Array.getElem?_eq_some_iff.1 h).1
theorem BoolsAt.below (h : BoolsAt W g l) {B : Nat} (hb : Below B W W') (hg : g < B) : BoolsAt W' g l := (hb.block g hg).trans h
theorem BoolsAt.set (h : BoolsAt W g l) (j : Nat) (b : Bool) : BoolsAt (W.setCell ⟨g, j, none⟩ (.bool b)) g (l.set j b) := by
  unfold BoolsAt
  rw [heap_set (o := j) h (.bool b)]
  simp [bools, List.map_set]
theorem BoolsAt.unfrozen (h : BoolsAt W g l) (j : Nat) : W.frozen? ⟨g, j, none⟩ = false := Go.Joins.unfrozen_of_block h j
end
theorem info4 : (Tryz.prog.info? 4).map (fun i => (i.zero, i.size, i.bytes)) = some (some (.bool false), 1, 1) := by kernel_rfl
theorem made_false (n : Nat) : madeCells #[Value.bool false] n = (bools (List.replicate n false)).toArray := by
  apply Array.ext
  · simp [madeCells, bools]
  · intro i h1 h2
    simp only [madeCells, Array.getElem_map, Array.getElem_range, List.getElem_toArray]
    simp [bools, Nat.mod_one]
/-- a row of the call's own, cut -/
theorem own_take {w : World} {base n n' c : Nat} {A : Option Addr} {e : TypeId} {xs : List Value} (h : w.ownsRow base e 1 (.slice A n c) n xs) (hn : n' ≤ n) (h0 : 0 < n) : w.ownsRow base e 1 (.slice A n' c) n' (xs.take n') := by
  refine ⟨by rw [List.length_take, h.1]; omega, ?_⟩
  rcases h.2 with ⟨_, hz⟩ | ⟨g, cap, cur, hv, hb, hg, h1, h2, h3, h4⟩
  · omega
  · injection hv with e1 e2 e3
    subst e1
    subst e3
    refine .inr ⟨g, c, cur, rfl, hb, hg, by omega, h2, h3, ?_⟩
    rw [← h4, List.take_take]
    congr 1
    omega
/-- a row of the call's own as a place -/
theorem own_at {w : World} {base n c : Nat} {A : Option Addr} {e : TypeId} {xs : List Value} (h : w.ownsRow base e 1 (.slice A n c) n xs) (h0 : 0 < n) : ∃ y, A = some ⟨y, 0, none⟩ ∧ base ≤ y ∧ y < w.heap.size ∧ ∀ k u, xs[k]? = some u → w.cell? ⟨y, k, none⟩ = some u := by
  have h2 := h
  rcases h.2 with ⟨_, hz⟩ | ⟨y, cap, cur, hv, hb, hh, _⟩
  · omega
  · injection hv with e1 _ _
    subst e1
    refine ⟨y, rfl, hb, (Array.getElem?_eq_some_iff.1 hh).1, fun k x hx => ?_⟩
    have := h2.cells (g := y) rfl k _ hx
    have e : Addr.add ⟨y, 0, none⟩ k = ⟨y, k, none⟩ := by unfold Addr.add; split <;> simp_all
    rwa [e] at this
end Go.Proofs.YthgbmhpfblgjcaaGreatDoor.fl
namespace Go.Proofs.YthgbmhpfblgjcaaGreatDoor.fl
open Go.RowKit Go.Shelf
open M T ty
set_option linter.unusedVariables false
/-- the variables of from stand -/
structure EnvG (w W : World) (seen : List Bool) (v : Value) (todo : List Int) : Prop where
  below : Below w.heap.size w W
  seen : BoolsAt W w.heap.size seen
  todo : W.ownsRow (w.heap.size + 1) 3 1 v todo.length (ints todo)
theorem heap_alloc_lt (W : World) (o : Obj) {g : Nat} (h : g < W.heap.size) : (W.alloc o).heap[g]? = W.heap[g]? := ((Below.refl W.heap.size W).alloc (Nat.le_refl _) o).block g h
section
variable {w W W' : World} {seen : List Bool} {v : Value} {todo : List Int}
theorem EnvG.set (h : EnvG w W seen v todo) (j : Nat) : EnvG w (W.setCell ⟨w.heap.size, j, none⟩ (.bool true)) (seen.set j true) v todo := by
  refine ⟨Below.setCell (p := ⟨w.heap.size, j, none⟩) h.below (Nat.le_refl _) _, h.seen.set j true, h.todo.kept (grown_setCell W ⟨w.heap.size, j, none⟩ _) ?_⟩
  cases hv : v.ownBlock with
  | none => exact .inl rfl
  | some k => exact .inr (fun e => by have := (h.todo.lt k hv).1; have := Option.some.inj e; simp at this; omega)
theorem EnvG.alloc (h : EnvG w W seen v todo) (o : Obj) : EnvG w (W.alloc o) seen v todo :=
  ⟨h.below.alloc h.below.size _, (heap_alloc_lt W o h.seen.lt).trans h.seen, h.todo.alloc o⟩
theorem EnvG.app {v' : Value} {todo' : List Int} (h : EnvG w W seen v todo) (h1 : W'.ownsRow (w.heap.size + 1) 3 1 v' todo'.length (ints todo')) (hg : W.grownBy W' v.ownBlock) : EnvG w W' seen v' todo' :=
  ⟨h.below.grown hg h.below.size (fun g hg => by have := (h.todo.lt g hg).1; omega), (hg.block _ h.seen.lt (fun e => by have := (h.todo.lt _ e.symm).1; omega)).trans h.seen, h1⟩
theorem EnvG.drew (h : EnvG w W seen v todo) : EnvG w W.drew seen v todo := ⟨h.below.drew, h.seen, h.todo⟩
end
set_option maxRecDepth 20000 in
set_option maxHeartbeats 8000000 in
theorem from_92 (gb : Nat) (tt : List (List Int)) (TA : Option Addr) (tc : Nat) (A : Nat → Option Addr) (c : Nat → Nat) (w : World) (hcell : w.cell? ⟨gb, 5, none⟩ = some (.slice TA tt.length tc)) (hgb : gb < w.heap.size) (hrows : RowsAt w w.heap.size TA tt A c)
    (h1 : 1 ≤ tt.length) (hn : tt.length ≤ 4096) (hcl : Closed tt) (hlen : ∀ l ∈ tt, l.length ≤ 2) :
    Calls Tryz.prog 92 #[.pointer (some ⟨gb, 0, none⟩), .int .i64 0, .int .i64 (-1)] w fun e w' => ∃ seen, e = .returned (.slice (some ⟨w.heap.size, 0, none⟩) tt.length tt.length) ∧ Found tt (-1) 0 seen ∧ BoolsAt w' w.heap.size seen ∧ Below w.heap.size w w' := by
  have hmk := run_make_row' (P := Tryz.prog) 84 4 (.bool false) 1 Tryz.underlying84 info4 rfl .i64 .i64 tt.length (by omega) (by omega)
  have HE0 : Hid (EnvG w ((w.alloc (.cells ((madeCells #[Value.bool false] tt.length).setIfInBounds 0 (Value.bool true)) 4)).alloc (.cells #[.int .i64 0] 3)) ((List.replicate tt.length false).set 0 true) (.slice (some ⟨w.heap.size + 1, 0, none⟩) 1 1) [0]) := Lib.hid (by
    have e0 : (madeCells #[Value.bool false] tt.length).setIfInBounds 0 (Value.bool true) = (bools ((List.replicate tt.length false).set 0 true)).toArray := by
      rw [made_false, List.setIfInBounds_toArray]
      unfold bools
      rw [List.map_set]
    rw [e0]
    have hb : BoolsAt (w.alloc (.cells (bools ((List.replicate tt.length false).set 0 true)).toArray 4)) w.heap.size ((List.replicate tt.length false).set 0 true) := heap_alloc_new w _
    refine ⟨((Below.refl _ _).alloc (Nat.le_refl _) _).alloc (by simp) _, (heap_alloc_lt _ _ hb.lt).trans hb, ?_⟩
    have := (IntsAt.one (w.alloc (.cells (bools ((List.replicate tt.length false).set 0 true)).toArray 4)) (w.heap.size + 1) (by simp) 0)
    obtain ⟨A', c', e, ho⟩ := this
    simp only [World.size_alloc] at e ho
    rw [e]
    exact ho)
  have HS0 : Hid (Srch tt (-1) 0 ((List.replicate tt.length false).set 0 true) [0] (-1) []) := Lib.hid (Srch.init hcl ⟨by omega, by omega⟩ (by omega))
  have HR := Lib.hid hrows
  have HCL := Lib.hid hcl
  have HLEN := Lib.hid hlen
  have HC := Lib.hid hcell
  have hn0 : (0 : Int) < (tt.length : Int) := by omega
  have hn1 : (tt.length : Int) ≤ 4096 := by omega
  clear hrows hcl hlen h1
  have hz0 : (madeCells #[Value.bool false] tt.length)[0]? = some (.bool false) := by
    rw [made_false, List.getElem?_toArray]
    unfold bools
    rw [List.map_replicate, List.getElem?_replicate, if_pos (by omega)]
  go_enter Tryz.func92, Tryz.ntmps92
  go_wp2_with fail
  clear hmk hz0
  have hus : unseen ((List.replicate tt.length false).set 0 true) + 1 = tt.length := by
    rw [unseen_set _ 0 (by rw [List.getElem?_replicate, if_pos (by omega)])]
    simp [unseen]
  go_loopg [8] (2 * unseen ((List.replicate tt.length false).set 0 true) + 1) (fun N t wr => ∃ seen todo, N = 2 * unseen seen + todo.length ∧ EnvG w wr seen t todo ∧ Srch tt (-1) 0 seen todo (-1) [] ∧ todo.length + unseen seen ≤ tt.length)
  case atStart => exact ⟨_, [0], rfl, HE0.out, HS0.out, by simp; omega⟩
  case round =>
    obtain ⟨seen, todo, rfl, he, hs, hu⟩ := hrel
    clear HE0 HS0 hus
    rcases List.eq_nil_or_concat todo with rfl | ⟨t, k, rfl⟩
    · have HE := Lib.hid he
      have HF := Lib.hid (hs.found (by omega) HCL.out)
      obtain ⟨A9, c9, rfl, -, -⟩ := own_form he.todo
      clear he hs
      go_wp2_with fail
      go_ret
      exact ⟨seen, rfl, HF.out, HE.out.seen, HE.out.below⟩
    · rw [List.concat_eq_append] at *
      obtain ⟨k0, k1⟩ := hs.mem k (by simp)
      obtain ⟨m, rfl⟩ := Int.eq_ofNat_of_zero_le k0
      rw [Int.toNat_natCast] at k1
      have hm : m < tt.length := by rw [← hs.len]; exact (List.getElem?_eq_some_iff.1 k1).1
      have hmI : (m : Int) < (tt.length : Int) := by omega
      obtain ⟨A9, c9, rfl, hc1, hc2⟩ := own_form he.todo
      have hown := he.todo
      have hlt : (t ++ [(m : Int)]).length = t.length + 1 := by simp
      rw [hlt] at hown hc1 hu
      rw [hlt]
      obtain ⟨y, rfl, hy0, hy1, hyc⟩ := own_at hown (by omega)
      have c0 := hyc t.length (.int .i64 m) (by simp [ints])
      have hcut := own_take hown (n' := t.length) (by omega) (by omega)
      have hcg := he.below.cell (p := ⟨gb, 5, none⟩) hgb
      rw [HC.out] at hcg
      obtain ⟨ad, p, l, rfl, hl, hp, -, a0, hrd⟩ := row_at (HR.out.below he.below) hm
      have HE : Hid (EnvG w wr seen (.slice (some ⟨y, 0, none⟩) t.length c9) t) := Lib.hid ⟨he.below, he.seen, by simpa [ints] using hcut⟩
      have HSR := Lib.hid hs.pop
      have HRD := Lib.hid (HR.out.rd m l hl)
      have HL := Lib.hid hl
      have hll := HLEN.out l (List.mem_of_getElem? hl)
      have HK := Lib.hid k1
      have htl : (t.length : Int) ≤ 4096 := by omega
      clear hs he hown hcut hyc hl hrd
      generalize A m = Am at *
      go_wp2_with fail
      generalize htl0 : t.length = tl at *
      go_loopg [49, 8] l.length (fun N i v wr => ∃ j seen2 todo2, j ≤ l.length ∧ N = l.length - j ∧ i = .int .i64 j ∧ EnvG w wr seen2 v todo2 ∧ Srch tt (-1) 0 seen2 todo2 m (l.take j) ∧ seen2[m]? = some true ∧ todo2.length + unseen seen2 < tt.length ∧ 2 * unseen seen2 + todo2.length ≤ 2 * unseen seen + tl)
      case atStart => exact ⟨0, seen, t, by omega, rfl, rfl, HE.out, by rw [List.take_zero]; exact HSR.out, HK.out, by omega, by omega⟩
      case round =>
        obtain ⟨j, seen2, todo2, hj, rfl, rfl, he, hs, hk, hu2, hms⟩ := hrel
        by_cases hlj : j < l.length
        · obtain ⟨ad2, p2, x, rfl, hx, hp2, -, b0⟩ := rd_int (HRD.out.below he.below) hlj
          have hxm : x ∈ l := List.mem_of_getElem? hx
          obtain ⟨x0, x1⟩ := HCL.out l (List.mem_of_getElem? HL.out) x hxm
          obtain ⟨q, rfl⟩ := Int.eq_ofNat_of_zero_le x0
          have hq : q < seen2.length := by rw [hs.len]; omega
          have hne : ((q : Int) != -1) = true := by simp
          have d0 := he.seen.cell (List.getElem?_eq_getElem hq)
          have hlI : (j : Int) < (l.length : Int) := by omega
          have HTK : Hid (l.take (j + 1) = l.take j ++ [(q : Int)]) := Lib.hid (by rw [List.take_add_one, hx]; rfl)
          have hu2' : todo2.length + 1 ≤ 4096 := by omega
          cases hsq : seen2[q] with
          | true =>
            have HS := Lib.hid (hs.old (c := (q : Int)) (.inr (by rw [Int.toNat_natCast, List.getElem?_eq_getElem hq, hsq])))
            have HE2 := Lib.hid he
            rw [hsq] at d0
            rw [← HTK.out] at HS
            clear hs he hx hsq
            go_wp2_with fail
            go_roundg (l.length - (j + 1))
            case measure => omega
            case rel => exact ⟨j + 1, seen2, todo2, by omega, rfl, by go_num, HE2.out, HS.out, hk, hu2, hms⟩
          | false =>
            have hsq2 : seen2[q]? = some false := by rw [List.getElem?_eq_getElem hq, hsq]
            have HS := Lib.hid (hs.new hk HL.out hxm (by omega) hq)
            have hus := unseen_set seen2 q hsq2
            have HE2 := Lib.hid ((he.set q).alloc (.cells #[.int .i64 q] 3))
            have hf := he.seen.unfrozen q
            have hk2 := set_true hk hq
            rw [hsq] at d0
            rw [← HTK.out] at HS
            have hu4 : (todo2.length + 1) * 8 ≤ 140737488355328 := by omega
            clear hs he hx hsq hsq2
            go_wp2_with (at_builtin; go_loud (refine wpList_app_one (w := (wr.setCell ⟨w.heap.size, q, none⟩ (.bool true)).alloc (.cells #[.int .i64 q] 3)) rfl (.tmp 66) (.tmp 68) rfl (r := (q : Int)) rfl HE2.out.todo rfl (by have := heap_alloc_new (wr.setCell ⟨w.heap.size, q, none⟩ (.bool true)) (.cells #[.int .i64 q] 3); simpa using this) hu4 HE2.out.seen.lt ?_); intro v1 w1 ho1 hg1)
            have HE3 := Lib.hid (HE2.out.app ho1 hg1)
            go_roundg (l.length - (j + 1))
            case measure => omega
            case rel => exact ⟨j + 1, _, todo2 ++ [(q : Int)], by omega, rfl, by go_num, HE3.out, HS.out, hk2, by simp; omega, by simp; omega⟩
        · obtain rfl : j = l.length := by omega
          rw [List.take_length] at hs
          have HS := Lib.hid (hs.fin HL.out)
          have HE2 := Lib.hid he
          clear hs he
          go_wp2_with fail
          go_roundg (2 * unseen seen2 + todo2.length)
          case measure => omega
          case rel => exact ⟨seen2, todo2, rfl, HE2.out, HS.out, by omega⟩
end Go.Proofs.YthgbmhpfblgjcaaGreatDoor.fl
namespace Go.Proofs.YthgbmhpfblgjcaaGreatDoor.fl
open Go.RowKit Go.Shelf
open M T ty
set_option linter.unusedVariables false
theorem cell_of_heap {W W' : World} {p : Addr} (h : W'.heap[p.block]? = W.heap[p.block]?) : W'.cell? p = W.cell? p := by
  unfold World.cell?
  simp only [h]
/-- cells that stand in blocks of a kind -/
def RdP (W : World) (P : Nat → Prop) (A : Option Addr) (xs : List Value) : Prop :=
  xs ≠ [] → ∃ ad, A = some ad ∧ P ad.block ∧ ∀ j u, xs[j]? = some u → W.cell? (ad.add j) = some u
theorem RdP.keep {W W' : World} {P P' : Nat → Prop} {A : Option Addr} {xs : List Value} (h : RdP W P A xs) (hk : ∀ g, P g → P' g ∧ W'.heap[g]? = W.heap[g]?) : RdP W' P' A xs := fun hn => by
  obtain ⟨ad, e, hb, hc⟩ := h hn
  exact ⟨ad, e, (hk _ hb).1, fun j u hu => (cell_of_heap (by rw [M.block_add]; exact (hk _ hb).2)).trans (hc j u hu)⟩
theorem Rd.p {W : World} {B : Nat} {A : Option Addr} {xs : List Value} (h : Rd W B A xs) : RdP W (· < B) A xs := h
theorem RdP.rd {W : World} {P : Nat → Prop} {B : Nat} {A : Option Addr} {xs : List Value} (h : RdP W P A xs) (hP : ∀ g, P g → g < B) : Rd W B A xs := h.keep fun g hg => ⟨hP g hg, rfl⟩
theorem RdP.of_own {W : World} {base n c : Nat} {A : Option Addr} {e : TypeId} {xs : List Value} (h : W.ownsRow base e 1 (.slice A n c) n xs) : RdP W (fun g => base ≤ g ∧ g < W.heap.size) A xs := fun hn => by
  have h0 : 0 < n := by
    have := h.1
    cases xs with
    | nil => exact absurd rfl hn
    | cons x r => simp at this; omega
  obtain ⟨y, rfl, h1, h2, hc⟩ := own_at h h0
  refine ⟨_, rfl, ⟨h1, h2⟩, fun j u hu => ?_⟩
  have e : Addr.add ⟨y, 0, none⟩ j = ⟨y, j, none⟩ := by unfold Addr.add; split <;> simp_all
  rw [e]
  exact hc j u hu
/-- lists that stand in blocks of a kind, their values -/
structure Lsts (W : World) (P : Nat → Prop) (xs : List Value) (ls : List (List Int)) : Prop where
  len : xs.length = ls.length
  get : ∀ (j : Nat) (l : List Int), ls[j]? = some l → ∃ A c, xs[j]? = some (Value.slice A l.length c) ∧ RdP W P A (ints l)
section
variable {W W' : World} {P P' : Nat → Prop} {xs : List Value} {ls : List (List Int)}
theorem Lsts.nil : Lsts W P [] [] := ⟨rfl, fun j l h => by simp at h⟩
theorem Lsts.keep (h : Lsts W P xs ls) (hk : ∀ g, P g → P' g ∧ W'.heap[g]? = W.heap[g]?) : Lsts W' P' xs ls :=
  ⟨h.len, fun j l hj => by obtain ⟨A, c, e, hr⟩ := h.get j l hj; exact ⟨A, c, e, hr.keep hk⟩⟩
theorem Lsts.snoc (h : Lsts W P xs ls) {A : Option Addr} {c : Nat} {l : List Int} (hr : RdP W P A (ints l)) : Lsts W P (xs ++ [Value.slice A l.length c]) (ls ++ [l]) := by
  refine ⟨by simp [h.len], fun j l' hj => ?_⟩
  rcases Nat.lt_or_ge j ls.length with hlt | hge
  · rw [List.getElem?_append_left hlt] at hj
    obtain ⟨A', c', e, hr'⟩ := h.get j l' hj
    exact ⟨A', c', by rw [List.getElem?_append_left (by rw [h.len]; exact hlt)]; exact e, hr'⟩
  · rw [List.getElem?_append_right hge] at hj
    rcases Nat.eq_zero_or_pos (j - ls.length) with h0 | h0
    · rw [h0] at hj
      simp at hj
      subst hj
      exact ⟨A, c, by rw [List.getElem?_append_right (by rw [h.len]; exact hge), h.len, h0]; rfl, hr⟩
    · rw [List.getElem?_eq_none (by simp; omega)] at hj
      cases hj
theorem Lsts.rows (h : Lsts W P xs ls) {base : Nat} {TA : Option Addr} {c : Nat} {n : Nat} (hn : n = ls.length) (ho : W.ownsRow base 27 1 (.slice TA n c) n xs) {B : Nat} (hP : ∀ g, P g → g < B) (hB : W.heap.size ≤ B) : ∃ A c', RowsAt W B TA ls A c' := by
  subst hn
  refine ⟨fun j => match xs[j]? with | some (Value.slice A _ _) => A | _ => none, fun j => match xs[j]? with | some (Value.slice _ _ c) => c | _ => 0, fun h0 => ?_, fun j l hj => ?_⟩
  · obtain ⟨y, rfl, h1, h2, hc⟩ := own_at ho h0
    refine ⟨_, rfl, Nat.lt_of_lt_of_le h2 hB, fun j l hj => ?_⟩
    obtain ⟨A, c', e, hr⟩ := h.get j l hj
    have e1 : Addr.add ⟨y, 0, none⟩ j = ⟨y, j, none⟩ := by unfold Addr.add; split <;> simp_all
    rw [e1, e]
    exact hc j _ e
  · obtain ⟨A, c', e, hr⟩ := h.get j l hj
    simp only [e]
    exact hr.rd hP
end
/-- where a graph's parts stand -/
structure GLay where
  (TA : Option Addr) (tc : Nat) (A : Nat → Option Addr) (c : Nat → Nat) (rb : Nat)
/-- a function's graph stands below block B, its head in block gb -/
structure GrAt (W : World) (B gb : Nat) (f : Fn) (L : FLay) (G : GLay) (rc : List Bool) : Prop where
  lt : gb < B
  blk : W.heap[gb]? = some (.cells #[.string f.name, .int .i64 f.params, .int .i64 f.regs, .slice L.SA f.slots.length L.sc, .slice L.BA f.bl.length L.bc, .slice G.TA f.bl.length G.tc, .slice (some ⟨G.rb, 0, none⟩) f.bl.length f.bl.length] 86 (0, 0))
  fn : FnAt W B f L
  rows : RowsAt W B G.TA (tos f.bl) G.A G.c
  rlt : G.rb < B
  rch : BoolsAt W G.rb rc
  rlen : rc.length = f.bl.length
section
variable {W W' : World} {B B' gb : Nat} {f : Fn} {L : FLay} {G : GLay} {rc : List Bool}
theorem GrAt.below (h : GrAt W B gb f L G rc) (hb : Below B W W') : GrAt W' B gb f L G rc :=
  ⟨h.lt, (hb.block _ h.lt).trans h.blk, h.fn.below hb, h.rows.below hb, h.rlt, h.rch.below hb h.rlt, h.rlen⟩
theorem GrAt.more (h : GrAt W B gb f L G rc) (hB : B ≤ B') : GrAt W B' gb f L G rc :=
  ⟨Nat.lt_of_lt_of_le h.lt hB, h.blk, h.fn.keep (fun _ _ => rfl) hB, h.rows.more hB, Nat.lt_of_lt_of_le h.rlt hB, h.rch, h.rlen⟩
theorem GrAt.cells (h : GrAt W B gb f L G rc) : W.cell? ⟨gb, 0, none⟩ = some (.string f.name) ∧ W.cell? ⟨gb, 1, none⟩ = some (.int .i64 f.params) ∧ W.cell? ⟨gb, 2, none⟩ = some (.int .i64 f.regs) ∧ W.cell? ⟨gb, 3, none⟩ = some (.slice L.SA f.slots.length L.sc) ∧ W.cell? ⟨gb, 4, none⟩ = some (.slice L.BA f.bl.length L.bc) ∧ W.cell? ⟨gb, 5, none⟩ = some (.slice G.TA f.bl.length G.tc) ∧ W.cell? ⟨gb, 6, none⟩ = some (.slice (some ⟨G.rb, 0, none⟩) f.bl.length f.bl.length) :=
  ⟨Go.Joins.cell_of_block h.blk 0, Go.Joins.cell_of_block h.blk 1, Go.Joins.cell_of_block h.blk 2, Go.Joins.cell_of_block h.blk 3, Go.Joins.cell_of_block h.blk 4, Go.Joins.cell_of_block h.blk 5, Go.Joins.cell_of_block h.blk 6⟩
end
/-- one value more behind a row of the call's own -/
theorem wpList_app_gen {ops : Array Oper} {rest : List Oper} {o : Oper} {a : Act} {Q : Exit → Act → World → Prop} {w : World} (hgd : o.guard = none) (s x : Operand) (t e : TypeId) (z : Value) (bytes : Nat)
    (ht : Tryz.prog.underlying t = some (.slice e)) (hinfo : (Tryz.prog.info? e).map (fun i => (i.zero, i.size, i.bytes)) = some (some z, 1, bytes)) (hz1 : z.cells.size = 1)
    (ho : o.op = .call { callee := .builtin .append, args := #[s, x], argTypes := #[t, t] })
    {base g : Nat} {v : Value} {l : List Value} {r : Value} (hs : a.eval s = v) (hown : w.ownsRow base e 1 v l.length l) (hx : a.eval x = .slice (some ⟨g, 0, none⟩) 1 1)
    (hg : w.heap[g]? = some (.cells #[r] e (0, 0))) (hr : r.oneCell' = true) (hml : l.length + 1 ≤ maxLen) (hlen : (l.length + 1) * bytes ≤ 140737488355328) (hbase : base ≤ w.heap.size)
    (h : ∀ v' w', w'.ownsRow base e 1 v' (l ++ [r]).length (l ++ [r]) → w.grownBy w' v.ownBlock → (v'.ownBlock = v.ownBlock ∨ v'.ownBlock = some w.heap.size) → wpList Tryz.prog ops Q rest (a.put o.dst v') w') : wpList Tryz.prog ops Q (o :: rest) a w := by
  obtain ⟨i1, hj, hy0, hy1, hy2⟩ := info_parts hinfo
  have hrd : Rd w w.heap.size (some ⟨g, 0, none⟩) [r] := fun _ => ⟨⟨g, 0, none⟩, rfl, (Array.getElem?_eq_some_iff.1 hg).1, fun j u hu => by
    rcases j with _ | j
    · have : u = r := by simpa using hu.symm
      rw [this]
      exact Go.Joins.cell_of_block hg 0
    · simp at hu⟩
  refine wpList_append_rd w hgd s x t ho base e i1 _ 1 bytes ht hj hy0 hy1 hy2 hz1 (by omega) v l.length l hs hown _ _ 1 1 [r] hx (by simp) hrd (fun u hu => by
    have : u = r := by simpa using hu
    rw [this]; exact hr) hml hlen hbase fun v' w' h1 h2 h3 => h v' w' ?_ h2 h3
  rw [List.length_append]
  exact h1
theorem info27 : (Tryz.prog.info? 27).map (fun i => (i.zero, i.size, i.bytes)) = some (some (.slice none 0 0), 1, 24) := by kernel_rfl
end Go.Proofs.YthgbmhpfblgjcaaGreatDoor.fl
namespace Go.Proofs.YthgbmhpfblgjcaaGreatDoor.fl
open Go.RowKit Go.Shelf
open M T ty
set_option linter.unusedVariables false
def nilV : Value := .slice none 0 0
theorem made_nil (n : Nat) : madeCells #[Value.slice none 0 0] n = (List.replicate n nilV).toArray := by
  apply Array.ext
  · simp [madeCells]
  · intro i h1 h2
    simp only [madeCells, Array.getElem_map, Array.getElem_range, List.getElem_toArray]
    simp [nilV, Nat.mod_one]
/-- a row of lists in a block of its own -/
structure LRow (W : World) (g : Nat) (P : Nat → Prop) (vs : List Value) (ls : List (List Int)) : Prop where
  row : W.heap[g]? = some (.cells vs.toArray 27 (0, 0))
  lst : Lsts W P vs ls
section
variable {W W' : World} {g : Nat} {P P' : Nat → Prop} {vs : List Value} {ls : List (List Int)}
theorem LRow.lt (h : LRow W g P vs ls) : g < W.heap.size := (Array.getElem?_eq_some_iff.1 h.row).1
theorem LRow.zeros (n : Nat) (h : W.heap[g]? = some (.cells (List.replicate n nilV).toArray 27 (0, 0))) : LRow W g P (List.replicate n nilV) (List.replicate n []) := by
  refine ⟨h, by simp, fun j l hj => ?_⟩
  rw [List.getElem?_replicate] at hj
  split at hj
  · rename_i hlt
    cases hj
    exact ⟨none, 0, by rw [List.getElem?_replicate, if_pos hlt]; rfl, fun hn => absurd rfl hn⟩
  · cases hj
theorem LRow.keep (h : LRow W g P vs ls) (hg : W'.heap[g]? = W.heap[g]?) (hk : ∀ k, P k → P' k ∧ W'.heap[k]? = W.heap[k]?) : LRow W' g P' vs ls := ⟨hg.trans h.row, h.lst.keep hk⟩
theorem Lsts.set (h : Lsts W P vs ls) {j : Nat} (hj : j < ls.length) {A : Option Addr} {c : Nat} {l : List Int} (hr : RdP W P A (ints l)) : Lsts W P (vs.set j (Value.slice A l.length c)) (ls.set j l) := by
  refine ⟨by simp [h.len], fun i l' hi => ?_⟩
  rw [List.getElem?_set] at hi
  by_cases e : j = i
  · subst e
    rw [if_pos rfl, if_pos hj] at hi
    cases hi
    exact ⟨A, c, by rw [List.getElem?_set, if_pos rfl, if_pos (by rw [h.len]; exact hj)], hr⟩
  · rw [if_neg e] at hi
    obtain ⟨A', c', e', hr'⟩ := h.get i l' hi
    exact ⟨A', c', by rw [List.getElem?_set, if_neg e]; exact e', hr'⟩
/-- a list is put into its place -/
theorem LRow.set (h : LRow W g P vs ls) {j : Nat} (hj : j < ls.length) (hP : ∀ k, P k → k ≠ g) {A : Option Addr} {c : Nat} {l : List Int} (hr : RdP W P A (ints l)) :
    LRow (W.setCell ⟨g, j, none⟩ (.slice A l.length c)) g P (vs.set j (Value.slice A l.length c)) (ls.set j l) := by
  refine ⟨?_, (h.lst.keep fun k hk => ⟨hk, heap_other _ (hP k hk)⟩).set hj (hr.keep fun k hk => ⟨hk, heap_other _ (hP k hk)⟩)⟩
  rw [heap_set (o := j) h.row _]
  simp
theorem LRow.cell (h : LRow W g P vs ls) {j : Nat} {l : List Int} (hj : ls[j]? = some l) : ∃ A c, W.cell? ⟨g, j, none⟩ = some (.slice A l.length c) ∧ RdP W P A (ints l) := by
  obtain ⟨A, c, e, hr⟩ := h.lst.get j l hj
  refine ⟨A, c, ?_, hr⟩
  rw [Go.Joins.cell_of_block h.row j]
  simpa using e
theorem LRow.some (h : LRow W g P vs ls) {j : Nat} (hj : j < ls.length) : ∃ v, W.cell? ⟨g, j, none⟩ = some v := by
  obtain ⟨A, c, e, -⟩ := h.cell (List.getElem?_eq_getElem hj)
  exact ⟨_, e⟩
theorem LRow.rows (h : LRow W g P vs ls) {B : Nat} (hP : ∀ k, P k → k < B) (hg : g < B) : ∃ A c, RowsAt W B (.some ⟨g, 0, none⟩) ls A c := by
  refine ⟨fun j => match vs[j]? with | Option.some (Value.slice A _ _) => A | _ => none, fun j => match vs[j]? with | Option.some (Value.slice _ _ c) => c | _ => 0, fun h0 => ⟨_, rfl, hg, fun j l hj => ?_⟩, fun j l hj => ?_⟩
  · obtain ⟨A, c', e, hr⟩ := h.lst.get j l hj
    have e1 : Addr.add ⟨g, 0, none⟩ j = ⟨g, j, none⟩ := by unfold Addr.add; split <;> simp_all
    rw [e1, Go.Joins.cell_of_block h.row j, List.getElem?_toArray, e]
  · obtain ⟨A, c', e, hr⟩ := h.lst.get j l hj
    simp only [e]
    exact hr.rd hP
end
end Go.Proofs.YthgbmhpfblgjcaaGreatDoor.fl
