/-
  The contract of Edges of package flow. Conditions: the function stands; the tables stand.
-/
import Derived.Shelf.SortM.Plain
import Derived.Shelf.SortM.SortNone
import Derived.Lib.SlKeysI
import Derived.Test.YthgbmhpfblgjcaaGreatDoorTwB
import Derived.Test.YthgbmhpfblgjcaaGreatDoorFlZ
set_option linter.unusedVariables false
set_option linter.unusedSimpArgs false
namespace Go.Proofs.YthgbmhpfblgjcaaGreatDoor.fl
open Go.RowKit Go.Shelf Go.Sort Go.Maps
open M T ty
set_option linter.unusedVariables false
def sortA_ren : Go.Shelf.Ren := ⟨fun | 5 => 40 | 8 => 67 | 7 => 66 | 19 => 108 | 20 => 109 | 10 => 99 | 11 => 100 | 12 => 101 | 13 => 102 | 14 => 103 | 15 => 104 | 16 => 105 | 17 => 106 | 18 => 107 | 30 => 128 | 31 => 129 | 32 => 130 | 33 => 131 | 34 => 132 | 35 => 133 | 40 => 149 | n => n, fun | 23 => 27 | 25 => 3 | 3 => 3 | 32 => 124 | 22 => 27 | 0 => 0 | 44 => 168 | 46 => 65 | 4 => 4 | 36 => 160 | 35 => 159 | 41 => 165 | 5 => 5 | 9 => 9 | 53 => 181 | 57 => 185 | 63 => 204 | 64 => 205 | n => n, fun | n => n⟩
theorem sortA : Go.Proofs.SlLaysM.n5 Tryz.prog sortA_ren where
  mixed := by kernel_rfl
  f5 := ⟨Tryz.f40.name, by kernel_rfl, Tryz.func40.trans (congrArg some (by kernel_rfl))⟩
  f7 := ⟨Tryz.f66.name, by kernel_rfl, Tryz.func66.trans (congrArg some (by kernel_rfl))⟩
  f8 := Tryz.func67.trans (congrArg some (by kernel_rfl))
  f10 := ⟨Tryz.f99.name, by kernel_rfl, Tryz.func99.trans (congrArg some (by kernel_rfl))⟩
  f11 := ⟨Tryz.f100.name, by kernel_rfl, Tryz.func100.trans (congrArg some (by kernel_rfl))⟩
  f12 := ⟨Tryz.f101.name, by kernel_rfl, Tryz.func101.trans (congrArg some (by kernel_rfl))⟩
  f13 := ⟨Tryz.f102.name, by kernel_rfl, Tryz.func102.trans (congrArg some (by kernel_rfl))⟩
  f14 := ⟨Tryz.f103.name, by kernel_rfl, Tryz.func103.trans (congrArg some (by kernel_rfl))⟩
  f15 := ⟨Tryz.f104.name, by kernel_rfl, Tryz.func104.trans (congrArg some (by kernel_rfl))⟩
  f16 := ⟨Tryz.f105.name, by kernel_rfl, Tryz.func105.trans (congrArg some (by kernel_rfl))⟩
  f17 := ⟨Tryz.f106.name, by kernel_rfl, Tryz.func106.trans (congrArg some (by kernel_rfl))⟩
  f18 := ⟨Tryz.f107.name, by kernel_rfl, Tryz.func107.trans (congrArg some (by kernel_rfl))⟩
  f19 := Tryz.func108.trans (congrArg some (by kernel_rfl))
  f20 := Tryz.func109.trans (congrArg some (by kernel_rfl))
  f30 := ⟨Tryz.f128.name, by kernel_rfl, Tryz.func128.trans (congrArg some (by kernel_rfl))⟩
  f31 := Tryz.func129.trans (congrArg some (by kernel_rfl))
  f32 := Tryz.func130.trans (congrArg some (by kernel_rfl))
  f33 := ⟨Tryz.f131.name, by kernel_rfl, Tryz.func131.trans (congrArg some (by kernel_rfl))⟩
  f34 := ⟨Tryz.f132.name, by kernel_rfl, Tryz.func132.trans (congrArg some (by kernel_rfl))⟩
  f35 := ⟨Tryz.f133.name, by kernel_rfl, Tryz.func133.trans (congrArg some (by kernel_rfl))⟩
  f40 := ⟨Tryz.f149.name, by kernel_rfl, Tryz.func149.trans (congrArg some (by kernel_rfl))⟩
  t0 := Tryz.underlying0
  a0 := Tryz.isAgg0
  z0 := Tryz.sizeOf0
  v0 := Tryz.zeroValue0
  t3 := Tryz.underlying3
  a3 := Tryz.isAgg3
  z3 := Tryz.sizeOf3
  v3 := Tryz.zeroValue3
  t4 := Tryz.underlying4
  a4 := Tryz.isAgg4
  z4 := Tryz.sizeOf4
  v4 := Tryz.zeroValue4
  t5 := Tryz.underlying5
  a5 := Tryz.isAgg5
  z5 := Tryz.sizeOf5
  v5 := Tryz.zeroValue5
  t9 := Tryz.underlying9
  a9 := Tryz.isAgg9
  z9 := Tryz.sizeOf9
  v9 := Tryz.zeroValue9
  t22 := Tryz.underlying27
  a22 := Tryz.isAgg27
  z22 := Tryz.sizeOf27
  v22 := Tryz.zeroValue27
  t23 := Tryz.underlying27
  a23 := Tryz.isAgg27
  z23 := Tryz.sizeOf27
  v23 := Tryz.zeroValue27
  t25 := Tryz.underlying3
  a25 := Tryz.isAgg3
  z25 := Tryz.sizeOf3
  v25 := Tryz.zeroValue3
  t32 := Tryz.underlying124
  a32 := Tryz.isAgg124
  z32 := Tryz.sizeOf124
  v32 := Tryz.zeroValue124
  t35 := Tryz.underlying159
  a35 := Tryz.isAgg159
  z35 := Tryz.sizeOf159
  v35 := Tryz.zeroValue159
  t36 := Tryz.underlying160
  a36 := Tryz.isAgg160
  z36 := Tryz.sizeOf160
  v36 := Tryz.zeroValue160
  t41 := Tryz.underlying165
  a41 := Tryz.isAgg165
  z41 := Tryz.sizeOf165
  v41 := Tryz.zeroValue165
  t44 := Tryz.underlying168
  a44 := Tryz.isAgg168
  z44 := Tryz.sizeOf168
  v44 := Tryz.zeroValue168
  t46 := Tryz.underlying65
  a46 := Tryz.isAgg65
  z46 := Tryz.sizeOf65
  v46 := Tryz.zeroValue65
  t53 := Tryz.underlying181
  a53 := Tryz.isAgg181
  z53 := Tryz.sizeOf181
  v53 := Tryz.zeroValue181
  t57 := Tryz.underlying185
  a57 := Tryz.isAgg185
  z57 := Tryz.sizeOf185
  v57 := Tryz.zeroValue185
  t63 := Tryz.underlying204
  a63 := Tryz.isAgg204
  z63 := Tryz.sizeOf204
  v63 := Tryz.zeroValue204
  t64 := Tryz.underlying205
  a64 := Tryz.isAgg205
  z64 := Tryz.sizeOf205
  v64 := Tryz.zeroValue205

/-- the numbers of a list in order -/
def rise (l : List Int) : List Int := l.mergeSort fun x y => decide (x ≤ y)
theorem rise_perm (l : List Int) : (rise l).Perm l := List.mergeSort_perm _ _
theorem rise_length (l : List Int) : (rise l).length = l.length := (rise_perm l).length_eq
theorem rise_mem {l : List Int} {x : Int} : x ∈ rise l ↔ x ∈ l := (rise_perm l).mem_iff
/-- slices.Sort of a row of the call's own -/
theorem sort_40 (base : Nat) (v : Value) (ss : List Int) (w : World) (hlen : ss.length < 4611686018427387904) (h : w.ownsRow base 3 1 v ss.length (ints ss)) :
    Calls Tryz.prog 40 #[v] w fun e w' => e = .returned (.tuple #[]) ∧ w'.ownsRow base 3 1 v ss.length (ints (rise ss)) ∧ w.grownBy w' v.ownBlock := by
  rcases h.2 with ⟨rfl, hz⟩ | ⟨gb, cap, cur, rfl, hbase, hgb, r1, r2, r3, r4⟩
  · obtain rfl : ss = [] := List.eq_nil_of_length_eq_zero hz
    refine (AnyM.slices_Sort_int_none sortA none 0 w).mono ?_
    rintro e w' ⟨rfl, rfl⟩
    exact ⟨rfl, by simpa [rise] using h, ⟨rfl, rfl, rfl, Nat.le_refl _, fun _ _ _ => rfl⟩⟩
  · have hH : Holds (Value.int .i64) w gb 0 ss.toArray := holds_of_block_i hgb (by simpa [ints] using r4)
    have hgl : gb < w.heap.size := (Array.getElem?_eq_some_iff.1 hgb).1
    refine (AnyM.slices_Sort_int sortA gb 0 cap ss w hH hgl hlen).mono ?_
    rintro e w' ⟨rfl, nn, os, rfl⟩
    exact ⟨rfl, ownsRow_sorted_i (by simp) hbase hgb r1 r2 r3, grownBy_sorted_i _⟩
set_option maxHeartbeats 2000000 in
/-- slices.Sorted of slices.Values of a list -/
theorem sorted_95 (Bs : Nat) (sv : Value) (zs : List Int) (hlen : zs.length ≤ maxLen) (hbytes : zs.length * 8 ≤ 140737488351232) (w : World) (hBs : Bs < w.heap.size) (hc : w.cell? ⟨Bs, 0, none⟩ = some sv) (hI : Nums w.heap.size w sv zs) :
    Calls Tryz.prog 95 #[.func (.func 127) #[] #[.pointer (some ⟨Bs, 0, none⟩)]] w fun e w' => ∃ v, e = .returned v ∧ IntsAt w' w.heap.size v (rise zs) ∧ Below w.heap.size w w' := by
  have HC := Lib.hid ((callsIn_wide (n := 4)).1 (collect_126 Fence.wide 4 trivial trivial trivial rfl (by omega) Bs sv zs hlen hbytes w hBs hc hI))
  go_enter Tryz.func95, Tryz.ntmps95
  go_wp2_with (first
    | (go_at_call 126; refine HC.out.mono ?_; rintro e w1 ⟨v, rfl, hrow, hb1⟩; have HR := Lib.hid hrow; have HB1 := Lib.hid hb1; clear hrow hb1)
    | (go_at_call 40; refine (sort_40 _ _ zs _ (by simp only [maxLen] at hlen; omega) HR.out).mono ?_; rintro e w2 ⟨rfl, hr2, hg2⟩; have HR2 := Lib.hid hr2; have HG2 := Lib.hid hg2; clear hr2 hg2))
  go_ret
  have hr := HR2.out
  rcases hr.2 with ⟨rfl, hz⟩ | ⟨gb, cap, cur, rfl, hbase, hgb, r1, r2, r3, r4⟩
  · have h0 : zs = [] := List.eq_nil_of_length_eq_zero hz
    subst h0
    exact ⟨_, rfl, by simpa [rise] using IntsAt.nil _ _, HB1.out.grown HG2.out HB1.out.size (fun j hj => by cases hj)⟩
  · refine ⟨.slice (some ⟨gb, 0, none⟩) zs.length cap, rfl, ⟨some ⟨gb, 0, none⟩, cap, by rw [rise_length], by rw [rise_length]; exact hr⟩, HB1.out.grown HG2.out HB1.out.size (fun j hj => by cases hj; exact hbase)⟩
end Go.Proofs.YthgbmhpfblgjcaaGreatDoor.fl
namespace Go.Proofs.YthgbmhpfblgjcaaGreatDoor.fl
open Go.RowKit Go.Shelf
open M T ty
set_option linter.unusedVariables false
/-- a block of slices is not a row of numbers -/
theorem off_row {W : World} {lo g : Nat} {cs : Array Value} {v : Value} {k : Nat} {xs : List Value} (hg : W.heap[g]? = some (.cells cs 27 (0, 0))) (h : W.ownsRow lo 3 1 v k xs) : v.ownBlock ≠ some g := by
  intro e
  rcases h.2 with ⟨rfl, -⟩ | ⟨b, cap, cur, rfl, -, hb, -⟩
  · simp [Value.ownBlock] at e
  · obtain rfl : b = g := by simpa [Value.ownBlock] using e
    rw [hg] at hb
    simp at hb
theorem own_block {W : World} {lo : Nat} {v : Value} {k b : Nat} {xs : List Value} (h : W.ownsRow lo 3 1 v k xs) (e : v.ownBlock = some b) : lo ≤ b ∧ b < W.heap.size := by
  rcases h.2 with ⟨rfl, -⟩ | ⟨g, cap, cur, rfl, hl, hb, -⟩
  · simp [Value.ownBlock] at e
  · obtain rfl : g = b := by simpa [Value.ownBlock] using e
    exact ⟨hl, (Array.getElem?_eq_some_iff.1 hb).1⟩
theorem own_keep {W W' : World} {lo : Nat} {v : Value} {k : Nat} {xs : List Value} {row : Option Nat} (h : W.ownsRow lo 3 1 v k xs) (hg : W.grownBy W' row) (hne : ∀ b, v.ownBlock = some b → row ≠ some b) : W'.ownsRow lo 3 1 v k xs := by
  refine h.kept hg ?_
  rcases h.2 with ⟨rfl, -⟩ | ⟨g, cap, cur, rfl, hl, hb, -⟩
  · exact .inl rfl
  · exact .inr fun e => hne g rfl e.symm
structure EnvB (w1 W : World) (n go gb N : Nat) (vo vb : List Value) (lo : List (List Int)) : Prop where
  b0 : Below w1.heap.size w1 W
  oo : LRow W go (fun g => (w1.heap.size ≤ g ∧ g < W.heap.size) ∧ g ≠ go ∧ g ≠ gb ∧ ∀ v ∈ vb, v.ownBlock ≠ some g) vo lo
  bk : W.heap[gb]? = some (.cells vb.toArray 27 (0, 0))
  own : ∀ v ∈ vb, ∃ A c xs, v = .slice A (List.length xs) c ∧ xs.length ≤ N ∧ W.ownsRow w1.heap.size 3 1 v xs.length xs
  ap : ∀ (i j : Nat) (u v : Value) (b : Nat), i ≠ j → vb[i]? = some u → vb[j]? = some v → u.ownBlock = some b → v.ownBlock ≠ some b
  d : go ≠ gb
  l1 : w1.heap.size ≤ go
  l2 : w1.heap.size ≤ gb
  ln : lo.length = n
  lb : vb.length = n
section
variable {w1 W W' : World} {n go gb N : Nat} {vo vb : List Value} {lo : List (List Int)}
theorem EnvB.after (h : EnvB w1 W n go gb N vo vb lo) (hb : Below W.heap.size W W') : EnvB w1 W' n go gb N vo vb lo :=
  ⟨h.b0.trans (hb.mono h.b0.size), h.oo.keep (hb.block _ h.oo.lt) (fun g hg => ⟨⟨⟨hg.1.1, Nat.lt_of_lt_of_le hg.1.2 hb.size⟩, hg.2⟩, hb.block g hg.1.2⟩),
    (hb.block _ (Array.getElem?_eq_some_iff.1 h.bk).1).trans h.bk, fun v hv => by obtain ⟨A, c, xs, e1, e2, e3⟩ := h.own v hv; exact ⟨A, c, xs, e1, e2, own_below_size e3 hb⟩, h.ap, h.d, h.l1, h.l2, h.ln, h.lb⟩
theorem EnvB.seto (h : EnvB w1 W n go gb N vo vb lo) {j : Nat} (hj : j < n) {A : Option Addr} {c : Nat} {l : List Int} (hr : RdP W (fun g => (w1.heap.size ≤ g ∧ g < W.heap.size) ∧ g ≠ go ∧ g ≠ gb ∧ ∀ v ∈ vb, v.ownBlock ≠ some g) A (ints l)) :
    EnvB w1 (W.setCell ⟨go, j, none⟩ (.slice A l.length c)) n go gb N (vo.set j (Value.slice A l.length c)) vb (lo.set j l) := by
  have hs := h.oo.set (j := j) (by rw [h.ln]; exact hj) (fun k hk => hk.2.1) (c := c) hr
  refine ⟨h.b0.setCell (p := ⟨go, j, none⟩) h.l1 _, ⟨hs.row, hs.lst.keep fun g hg => ⟨⟨⟨hg.1.1, by rw [World.size_setCell]; exact hg.1.2⟩, hg.2⟩, rfl⟩⟩, (heap_other _ (Ne.symm h.d)).trans h.bk, fun v hv => ?_, h.ap, h.d, h.l1, h.l2, by simpa using h.ln, h.lb⟩
  obtain ⟨A', c', xs, e1, e2, e3⟩ := h.own v hv
  exact ⟨A', c', xs, e1, e2, own_keep e3 (grown_setCell W ⟨go, j, none⟩ _) fun b hb e => off_row h.oo.row e3 (by rw [hb, ← e])⟩
theorem EnvB.grown (h : EnvB w1 W n go gb N vo vb lo) {j : Nat} {v v' : Value} {xs : List Value} {r : Value} {W2 : World} {A : Option Addr} {c : Nat} (hv : vb[j]? = some v)
    (hown : W.ownsRow w1.heap.size 3 1 v xs.length xs) (hN : xs.length ≤ N) (ho : W2.ownsRow w1.heap.size 3 1 v' (xs ++ [r]).length (xs ++ [r])) (hf : v' = .slice A (xs ++ [r]).length c) {tmp : Obj}
    (hg : (W.alloc tmp).grownBy W2 v.ownBlock) (hat : v'.ownBlock = v.ownBlock ∨ v'.ownBlock = some (W.alloc tmp).heap.size) :
    EnvB w1 (W2.setCell ⟨gb, j, none⟩ v') n go gb (N + 1) vo (vb.set j v') lo := by
  have hjl : j < vb.length := (List.getElem?_eq_some_iff.1 hv).1
  have hvm : v ∈ vb := List.mem_of_getElem? hv
  have hsz : (W.alloc tmp).heap.size = W.heap.size + 1 := by simp
  have hs2 : W.heap.size + 1 ≤ W2.heap.size := by rw [← hsz]; exact hg.size
  have hlt : gb < W.heap.size := (Array.getElem?_eq_some_iff.1 h.bk).1
  have old : ∀ g, g < W.heap.size → v.ownBlock ≠ some g → W2.heap[g]? = W.heap[g]? := fun g h1 h2 => (hg.block g (by omega) (fun e => h2 e.symm)).trans (heap_alloc_lt _ _ h1)
  have bk2 := (old gb hlt (off_row h.bk hown)).trans h.bk
  have hne : v'.ownBlock ≠ some gb := by
    rcases hat with e | e
    · rw [e]; exact off_row h.bk hown
    · rw [e, hsz]; intro e'; have := Option.some.inj e'; omega
  have hnv : ∀ g, g < W.heap.size → v.ownBlock ≠ some g → v'.ownBlock ≠ some g := fun g h1 h2 => by
    rcases hat with e | e
    · rw [e]; exact h2
    · rw [e, hsz]; intro e'; have := Option.some.inj e'; omega
  have hget : ∀ i u, (vb.set j v')[i]? = some u → (i = j ∧ u = v') ∨ (i ≠ j ∧ vb[i]? = some u) := fun i u hu => by
    rw [List.getElem?_set] at hu
    by_cases e : j = i
    · rw [if_pos e, if_pos hjl] at hu
      exact .inl ⟨e.symm, (Option.some.inj hu).symm⟩
    · rw [if_neg e] at hu
      exact .inr ⟨fun e' => e e'.symm, hu⟩
  refine ⟨?_, ?_, ?_, ?_, ?_, h.d, h.l1, h.l2, h.ln, by simpa using h.lb⟩
  · refine ((h.b0.alloc h.b0.size tmp).grown hg (by have := h.b0.size; omega) fun b e => (own_block hown e).1).setCell (p := ⟨gb, j, none⟩) h.l2 _
  · refine h.oo.keep ((heap_other _ h.d).trans (old go h.oo.lt (off_row h.oo.row hown))) fun g hg' => ⟨⟨⟨hg'.1.1, by rw [World.size_setCell]; omega⟩, hg'.2.1, hg'.2.2.1, fun u hu => ?_⟩, (heap_other _ hg'.2.2.1).trans (old g hg'.1.2 (hg'.2.2.2 v hvm))⟩
    rcases List.mem_or_eq_of_mem_set hu with h1 | rfl
    · exact hg'.2.2.2 u h1
    · exact hnv g hg'.1.2 (hg'.2.2.2 v hvm)
  · rw [heap_set (o := j) bk2 _]
    simp
  · intro u hu
    obtain ⟨i, hi⟩ := List.getElem?_of_mem hu
    rcases hget i u hi with ⟨rfl, rfl⟩ | ⟨e, hi'⟩
    · exact ⟨A, c, xs ++ [r], hf, by simp; omega, own_keep ho (grown_setCell W2 ⟨gb, i, none⟩ _) fun b hb e => hne (by rw [hb]; exact e.symm)⟩
    · obtain ⟨A', c', ys, e1, e2, e3⟩ := h.own u (List.mem_of_getElem? hi')
      refine ⟨A', c', ys, e1, by omega, own_keep (own_keep (own_keep e3 (grown_of_below ((Below.refl _ W).alloc (Nat.le_refl _) tmp) none) (fun _ _ => by simp)) hg fun b hb e' => ?_) (grown_setCell W2 ⟨gb, j, none⟩ _) fun b hb e' => off_row h.bk e3 (by rw [hb, ← e'])⟩
      exact h.ap i j u v b e hi' hv hb e'
  · intro i k u t b hik hu ht eb et
    rcases hget i u hu with ⟨rfl, rfl⟩ | ⟨e, hi'⟩ <;> rcases hget k t ht with ⟨rfl, rfl⟩ | ⟨e', hk'⟩
    · exact hik rfl
    · obtain ⟨A', c', ys, e1, e2, e3⟩ := h.own t (List.mem_of_getElem? hk')
      rcases hat with e4 | e4
      · exact h.ap i k v t b hik hv hk' (e4 ▸ eb) et
      · have h1 := (own_block e3 et).2
        rw [eb, hsz] at e4
        have := Option.some.inj e4
        omega
    · obtain ⟨A', c', ys, e1, e2, e3⟩ := h.own u (List.mem_of_getElem? hi')
      rcases hat with e4 | e4
      · exact h.ap i k u v b hik hi' hv eb (e4 ▸ et)
      · have h1 := (own_block e3 eb).2
        rw [et, hsz] at e4
        have := Option.some.inj e4
        omega
    · exact h.ap i k u t b hik hi' hk' eb et
end
end Go.Proofs.YthgbmhpfblgjcaaGreatDoor.fl
namespace Go.Proofs.YthgbmhpfblgjcaaGreatDoor.fl
open Go.RowKit Go.Shelf
open M T ty
set_option linter.unusedVariables false
section
variable {w1 W W2 : World} {n go gb N : Nat} {vo vb : List Value} {lo : List (List Int)} {v : Value} {xs : List Value}
theorem EnvB.bk2 (h : EnvB w1 W n go gb N vo vb lo) (hown : W.ownsRow w1.heap.size 3 1 v xs.length xs) {tmp : Obj} (hg : (W.alloc tmp).grownBy W2 v.ownBlock) : W2.heap[gb]? = some (.cells vb.toArray 27 (0, 0)) := by
  have hlt : gb < W.heap.size := (Array.getElem?_eq_some_iff.1 h.bk).1
  exact (hg.block gb (by simp; omega) (fun e => off_row h.bk hown e.symm)).trans ((heap_alloc_lt _ _ hlt).trans h.bk)
theorem EnvB.more (h : EnvB w1 W n go gb N vo vb lo) {N' : Nat} (hN : N ≤ N') : EnvB w1 W n go gb N' vo vb lo :=
  ⟨h.b0, h.oo, h.bk, fun v hv => by obtain ⟨A, c, xs, e1, e2, e3⟩ := h.own v hv; exact ⟨A, c, xs, e1, by omega, e3⟩, h.ap, h.d, h.l1, h.l2, h.ln, h.lb⟩
end
theorem al2_0 (w : World) (a b : Obj) : ((w.alloc a).alloc b).drew.heap[w.heap.size]? = some a := (heap_alloc_lt _ b (by simp)).trans (heap_alloc_new w a)
theorem al2_1 (w : World) (a b : Obj) : ((w.alloc a).alloc b).drew.heap[w.heap.size + 1]? = some b := by have := heap_alloc_new (w.alloc a) b; rw [World.size_alloc] at this; exact this
theorem al2_b (w : World) (a b : Obj) : Below w.heap.size w ((w.alloc a).alloc b).drew := (((Below.refl _ _).alloc (Nat.le_refl _) _).alloc (by simp) _).drew
set_option maxRecDepth 20000 in
set_option maxHeartbeats 8000000 in
theorem Edges_60 (f : Fn) (L : FLay) (r : Nat) (w : World) (h : Stands w f L r) :
    Calls Tryz.prog 60 #[fnV f L] w fun e w' => ∃ go gb Ao co, e = .returned (.tuple #[.slice (some ⟨go, 0, none⟩) f.bl.length f.bl.length, .slice (some ⟨gb, 0, none⟩) f.bl.length f.bl.length, .int .i64 0]) ∧ RowsP w' (fun g => w.heap.size ≤ g ∧ g < w'.heap.size) (some ⟨go, 0, none⟩) ((tos f.bl).map rise) Ao co ∧ Below w.heap.size w w' := by
  have hb := h.boxed
  have HDR := Lib.hid (drawn_51 f L _ hb.fn hb.tabs.keys (by have := hb.fits.name; simp only [maxLen]; omega) hb.fits.fit hb.ok)
  have HAL : Hid (Below w.heap.size w (w.alloc (FObj f L))) := Lib.hid ((Below.refl _ _).alloc (Nat.le_refl _) _)
  have HV : Hid (FBox (w.alloc (FObj f L)) w.heap.size f L) := Lib.hid (heap_alloc_new w _)
  have hbl4 : f.bl.length ≤ 4096 := h.good.b4
  have hbl5 : (f.bl.length : Int) ≤ 4096 := by omega
  have hbl1 : 1 ≤ f.bl.length := h.good.b1
  have HCL := Lib.hid h.good.closed
  have HLE := Lib.hid (tos_le f.bl)
  clear h hb
  obtain ⟨SA, sc, BA, bc, OA, oc, AA, ac⟩ := L
  unfold fnV at HDR ⊢
  unfold FObj at HDR HAL HV
  simp only at HDR HAL HV ⊢
  go_enter Tryz.func60, Tryz.ntmps60
  go_wp2_with (go_at_call 51; refine HDR.out.mono ?_; rintro e w1 ⟨gg, ⟨TA, tc, GA, Gc, rb⟩, rc, rfl, hgr, hfd, hgb, hb1⟩; obtain ⟨c0, c1, c2, c3, c4, c5, c6⟩ := hgr.cells; dsimp only at c5 c6; have hgl := hgr.lt; replace hgr := hgr.rows; dsimp only at hgr; have HGR := Lib.hid hgr; have HB1 := Lib.hid (HAL.out.trans (hb1.mono HAL.out.size)); clear hgr hfd hb1)
  have hmk := run_make_row' (P := Tryz.prog) 35 27 (.slice none 0 0) 24 Tryz.underlying35 info27 rfl .i64 .i64 f.bl.length (by omega) (by omega)
  have hcl : ∀ a, (w1.alloc a).cell? ⟨gg, 5, none⟩ = some (.slice TA f.bl.length tc) := fun a => (cell_of_heap (p := ⟨gg, 5, none⟩) (heap_alloc_lt w1 a hgl)).trans c5
  have HE0 : Hid (∀ wc go gb, go ≠ gb → w1.heap.size ≤ go → w1.heap.size ≤ gb → Below w1.heap.size w1 wc → wc.heap[go]? = some (.cells (madeCells #[Value.slice none 0 0] f.bl.length) 27 (0, 0)) → wc.heap[gb]? = some (.cells (madeCells #[Value.slice none 0 0] f.bl.length) 27 (0, 0)) →
      EnvB w1 wc f.bl.length go gb 0 (List.replicate f.bl.length nilV) (List.replicate f.bl.length nilV) (upTo (fun b => rise ((tos f.bl)[b]?.getD [])) f.bl.length 0)) := Lib.hid fun wc go gb h1 h2 h3 h6 h8 h9 => by
    rw [made_nil] at h8 h9
    rw [upTo_zero]
    refine ⟨h6, LRow.zeros _ h8, h9, fun v hv => ?_, fun i j u v b hij hu hv eb => ?_, h1, h2, h3, by simp, by simp⟩
    · rw [List.mem_replicate] at hv
      rw [hv.2]
      exact ⟨none, 0, [], rfl, Nat.zero_le _, World.ownsRow_nil _ _ _ _⟩
    · rw [List.getElem?_replicate] at hu
      split at hu
      · cases hu; simp [nilV, Value.ownBlock] at eb
      · cases hu
  go_cut [7, 8] (fun s7 s8 wc => ∃ go gb, s7 = .slice (some ⟨go, 0, none⟩) f.bl.length f.bl.length ∧ s8 = .slice (some ⟨gb, 0, none⟩) f.bl.length f.bl.length ∧ EnvB w1 wc f.bl.length go gb 0 (List.replicate f.bl.length nilV) (List.replicate f.bl.length nilV) (upTo (fun b => rise ((tos f.bl)[b]?.getD [])) f.bl.length 0))
  case first =>
    go_region
    all_goals
      go_wp2_with fail
      go_meet
      case rel =>
        first
        | exact ⟨w1.heap.size, w1.heap.size + 1, rfl, rfl, HE0.out _ w1.heap.size (w1.heap.size + 1) (by omega) (by omega) (by omega) (al2_b w1 _ _) (al2_0 w1 _ _) (al2_1 w1 _ _)⟩
        | exact ⟨w1.heap.size + 1, w1.heap.size, rfl, rfl, HE0.out _ (w1.heap.size + 1) w1.heap.size (by omega) (by omega) (by omega) (al2_b w1 _ _) (al2_1 w1 _ _) (al2_0 w1 _ _)⟩
  case rest =>
    obtain ⟨go, gb, rfl, rfl, hv0⟩ := hcut
    have HE1 := Lib.hid hv0
    have d5 := (hv0.b0.cell (p := ⟨gg, 5, none⟩) hgl).trans c5
    clear hv0 HE0 hcl hmk c0 c1 c2 c3 c4 c5 c6
    go_wp2_with fail
    clear d5
    go_loopg [38] f.bl.length (fun N t wr => ∃ i vo vb, i ≤ f.bl.length ∧ N = f.bl.length - i ∧ t = .int .i64 i ∧ EnvB w1 wr f.bl.length go gb (2 * i) vo vb (upTo (fun b => rise ((tos f.bl)[b]?.getD [])) f.bl.length i))
    case atStart => exact ⟨0, _, _, by omega, rfl, rfl, HE1.out⟩
    case round =>
      obtain ⟨i, vo, vb, hi, rfl, rfl, he⟩ := hrel
      clear HE1
      by_cases hlti : i < f.bl.length
      · have hltI : (i : Int) < (f.bl.length : Int) := by omega
        have hrows := HGR.out.below he.b0
        obtain ⟨ad, p, l, rfl, hl, hp, -, a0, hrd⟩ := row_at hrows (k := i) (by rw [tos_len]; exact hlti)
        have HRD := Lib.hid (HGR.out.rd i l hl)
        have hl2 := HLE.out l (List.mem_of_getElem? hl)
        have hl3 : (l.length : Int) ≤ 2 := by omega
        have HLC : Hid (∀ x ∈ l, 0 ≤ x ∧ x < f.bl.length) := Lib.hid fun x hx => by have := HCL.out l (List.mem_of_getElem? hl) x hx; rw [tos_len] at this; exact this
        have HL := Lib.hid hl
        have H := Lib.hid he
        clear he hrows hl hrd
        generalize GA i = Am at *
        generalize Gc i = cm at *
        go_wp2_with fail
        go_loopg [45] l.length (fun N t wr => ∃ j vb, j ≤ l.length ∧ N = l.length - j ∧ t = .int .i64 j ∧ EnvB w1 wr f.bl.length go gb (2 * i + j) vo vb (upTo (fun b => rise ((tos f.bl)[b]?.getD [])) f.bl.length i))
        case atStart => exact ⟨0, vb, by omega, rfl, rfl, H.out⟩
        case round =>
          obtain ⟨j, vb, hj, rfl, rfl, he⟩ := hrel
          by_cases hlj : j < l.length
          · obtain ⟨ad2, p2, x, rfl, hx, hp2, -, b0⟩ := rd_int (HRD.out.below he.b0) hlj
            obtain ⟨x0, x1⟩ := HLC.out x (List.mem_of_getElem? hx)
            obtain ⟨q, rfl⟩ := Int.eq_ofNat_of_zero_le x0
            have hq : q < vb.length := by rw [he.lb]; omega
            have hlI : (j : Int) < (l.length : Int) := by omega
            have hv : vb[q]? = some vb[q] := List.getElem?_eq_getElem hq
            obtain ⟨A7, c7, xs, e7, hxn, hown⟩ := he.own _ (List.mem_of_getElem? hv)
            have hqn : (q : Int) < (f.bl.length : Int) := by omega
            rw [e7] at hv hown
            have d0 : wr.cell? ⟨gb, q, none⟩ = some (.slice A7 xs.length c7) := by rw [Go.Joins.cell_of_block he.bk q]; simpa using hv
            have d1 : ∀ o, (wr.alloc o).cell? ⟨gb, q, none⟩ = some (.slice A7 xs.length c7) := fun o => (cell_of_heap (p := ⟨gb, q, none⟩) (heap_alloc_lt wr o (Array.getElem?_eq_some_iff.1 he.bk).1)).trans d0
            have HE := Lib.hid he
            have HOW := Lib.hid hown
            have HVQ := Lib.hid hv
            have hx1 : xs.length + 1 ≤ maxLen := by simp only [maxLen]; omega
            have hx2 : (xs.length + 1) * 8 ≤ 140737488355328 := by omega
            have hws := he.b0.size
            clear he hown hv e7 hx
            go_wp2_with (at_builtin; go_loud ((refine wpList_app_gen (w := wr.alloc (.cells #[.int .i64 i] 3)) rfl (.tmp 54) (.tmp 56) 27 3 (.int .i64 0) 8 Tryz.underlying27 info3q rfl rfl rfl (HOW.out.alloc _) rfl (heap_alloc_new wr _) rfl hx1 hx2 (by simp; omega) ?_); intro v6 w6 ho6 hg6 hv6; obtain ⟨A6, c6, rfl, -, -⟩ := own_form ho6; have e6 := HE.out.grown HVQ.out HOW.out hxn ho6 rfl hg6 hv6; have e8 := HE.out.bk2 HOW.out hg6; have c8 := Go.Joins.cell_of_block e8 q; have f8 := Go.Joins.unfrozen_of_block e8 q; rw [List.getElem?_toArray, HVQ.out] at c8; rw [List.length_append, List.length_singleton, Nat.add_assoc (2 * i) j 1] at e6; have HN := Lib.hid e6; clear e6 e8))
            go_roundg (l.length - (j + 1))
            case measure => omega
            case rel => exact ⟨j + 1, _, by omega, rfl, by go_num, HN.out⟩
          · obtain rfl : j = l.length := by omega
            have hgi : ((tos f.bl)[i]?.getD []) = l := by rw [HL.out]; rfl
            have hs1 : upTo (fun b => rise ((tos f.bl)[b]?.getD [])) f.bl.length (i + 1) = (upTo (fun b => rise ((tos f.bl)[b]?.getD [])) f.bl.length i).set i (rise l) := by
              rw [upTo_succ _ _ _ hlti, hgi]
            have HS1 := Lib.hid hs1
            have HE := Lib.hid he
            have hws := he.b0.size
            have H96 : Hid (Calls Tryz.prog 96 #[.slice Am l.length cm] wr fun e w' => e = .returned (.func (.func 127) #[] #[.pointer (some ⟨wr.heap.size, 0, none⟩)]) ∧ w' = wr.alloc (.cells #[.slice Am l.length cm] 27)) := Lib.hid ((callsIn_wide (n := 4)).1 (values_96 Fence.wide 4 trivial rfl _ _ _ wr))
            have hbb := he.b0.trans ((((Below.refl _ wr).alloc (Nat.le_refl _) (.cells #[.slice Am l.length cm] 27))).mono hws)
            have H95 := Lib.hid (sorted_95 wr.heap.size (.slice Am l.length cm) l (by simp only [maxLen]; omega) (by omega) (wr.alloc (.cells #[.slice Am l.length cm] 27)) (by simp) (Go.Joins.cell_of_block (heap_alloc_new wr _) 0) ⟨Am, cm, rfl, (HRD.out.below hbb).more (by have := hbb.size; exact this)⟩)
            have hsz := hbb.size
            clear he hs1 hgi hbb
            go_wp2_with (first
              | (go_at_call 96; refine H96.out.mono ?_; rintro e w4 ⟨rfl, rfl⟩)
              | (go_at_call 95; refine H95.out.mono ?_; rintro e w5 ⟨v, rfl, hv, hb5⟩; have hb6 := ((Below.refl _ wr).alloc (Nat.le_refl _) (.cells #[.slice Am l.length cm] 27)).trans (hb5.mono (by simp)); have he6 := HE.out.after hb6; obtain ⟨A6, c6, rfl, hro⟩ := hv; have HRO := Lib.hid hro; have HE6 := Lib.hid he6; have HB5 := Lib.hid hb5; obtain ⟨v9, c9⟩ := he6.oo.some (j := i) (by rw [he6.ln]; exact hlti); have f9 := Go.Joins.unfrozen_of_block he6.oo.row i; clear hb5 hb6 he6 hro))
            have HN := Lib.hid (HE6.out.seto hlti (A := A6) (c := c6) (l := rise l) (RdP.keep (RdP.of_own HRO.out) (by
              intro g hg
              have h1 : wr.heap.size + 1 ≤ g := by simpa using hg.1
              have h0 := HE.out.b0.size
              have h2 := HE.out.oo.lt
              have h3 := (Array.getElem?_eq_some_iff.1 HE.out.bk).1
              refine ⟨⟨⟨by omega, hg.2⟩, by omega, by omega, fun v hv e => ?_⟩, rfl⟩
              obtain ⟨A', c', ys, _, _, e3⟩ := HE.out.own v hv
              have := (own_block e3 e).2
              omega)))
            rw [← HS1.out] at HN
            go_roundg (f.bl.length - (i + 1))
            case measure => omega
            case rel => exact ⟨i + 1, _, vb, by omega, rfl, by go_num, HN.out.more (by omega)⟩
      · obtain rfl : i = f.bl.length := by omega
        rw [upTo_all] at he
        have H := Lib.hid he
        clear he
        go_wp2_with fail
        go_ret3
        have hs0 := HB1.out.size
        obtain ⟨Ao, co, hr⟩ := H.out.oo.rowsP (Q := fun g => w.heap.size ≤ g ∧ g < wr.heap.size) (fun k hk => ⟨Nat.le_trans hs0 hk.1.1, hk.1.2⟩) ⟨Nat.le_trans hs0 H.out.l1, H.out.oo.lt⟩
        refine ⟨go, gb, Ao, co, rfl, ?_, HB1.out.trans (H.out.b0.mono HB1.out.size)⟩
        rw [show (tos f.bl).map rise = (List.range f.bl.length).map (fun b => rise ((tos f.bl)[b]?.getD [])) from ?_]
        · exact hr
        · rw [← tos_len f.bl]
          apply List.ext_getElem
          · simp
          · intro i h1 h2
            have : i < (tos f.bl).length := by simpa using h1
            simp [this]
end Go.Proofs.YthgbmhpfblgjcaaGreatDoor.fl
