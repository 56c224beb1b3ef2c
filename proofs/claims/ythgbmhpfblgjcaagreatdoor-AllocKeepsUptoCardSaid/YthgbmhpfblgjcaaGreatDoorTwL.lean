/-
  The contract of between of package twice. Condition: the pass stands in memory.
-/
import Derived.Shelf.SlicesE.DeleteFunc
import Derived.Shelf.SlGeneric
import Derived.Test.YthgbmhpfblgjcaaGreatDoorTwH
set_option linter.unusedVariables false
set_option linter.unusedSimpArgs false
namespace Go.Proofs.YthgbmhpfblgjcaaGreatDoor.fl
open Go.RowKit Go.Shelf Go.Sort Go.Maps
open M T ty
set_option linter.unusedVariables false
def delA_ren : Go.Shelf.Ren := ⟨fun | 10 => 61 | 6 => 97 | n => n, fun | 22 => 27 | 23 => 3 | 25 => 87 | 3 => 3 | 4 => 4 | 0 => 0 | n => n, fun | n => n⟩
theorem delA : Go.Proofs.SlLaysH.n10 Tryz.prog delA_ren where
  mixed := by kernel_rfl
  f6 := ⟨Tryz.f97.name, by kernel_rfl, Tryz.func97.trans (congrArg some (by kernel_rfl))⟩
  f10 := ⟨Tryz.f61.name, by kernel_rfl, Tryz.func61.trans (congrArg some (by kernel_rfl))⟩
  t0 := Tryz.underlying0
  a0 := Tryz.isAgg0
  z0 := Tryz.sizeOf0
  v0 := Tryz.zeroValue0
  t3 := Tryz.underlying3
  a3 := Tryz.isAgg3
  z3 := Tryz.sizeOf3
  v3 := Tryz.zeroValue3
  t4 := Tryz.underlying4
  a4 := Tryz.isAgg4
  z4 := Tryz.sizeOf4
  v4 := Tryz.zeroValue4
  t22 := Tryz.underlying27
  a22 := Tryz.isAgg27
  z22 := Tryz.sizeOf27
  v22 := Tryz.zeroValue27
  a23 := Tryz.isAgg3
  z23 := Tryz.sizeOf3
  t25 := Tryz.underlying87
  a25 := Tryz.isAgg87
  z25 := Tryz.sizeOf87
  v25 := Tryz.zeroValue87

theorem gives_63 (d x : Int) (gx : Nat) (W : World) (hc : W.cell? ⟨gx, 2, none⟩ = some (.int .i64 d)) :
    FnGives Tryz.prog 63 #[.pointer (some ⟨gx, 0, none⟩)] #[.int .i64 x] (.bool (decide (x = d))) W := by
  show Calls Tryz.prog 63 #[.int .i64 x, .pointer (some ⟨gx, 0, none⟩)] W _
  have key : ∀ b, (x == d) = b → Calls Tryz.prog 63 #[.int .i64 x, .pointer (some ⟨gx, 0, none⟩)] W fun e w' => e = .returned (.bool b) ∧ ∃ q, w' = W.drewN q := by
    intro b hb
    go_enter Tryz.func63, Tryz.ntmps63
    go_wp2_with fail
    go_ret
    exact ⟨rfl, 0, rfl⟩
  refine (key (x == d) rfl).mono ?_
  rintro e w' ⟨rfl, h⟩
  exact ⟨by rw [Bool.beq_eq_decide_eq], h⟩
theorem pred_63 (d : Int) (gx : Nat) (w : World) (hB : gx < w.heap.size) (hcell : w.cell? ⟨gx, 2, none⟩ = some (.int .i64 d)) :
    PredAt Tryz.prog 63 #[.pointer (some ⟨gx, 0, none⟩)] (Value.int .i64) (fun x => decide (x = d)) w :=
  fun W x hb => gives_63 d x gx W ((hb.cell (p := ⟨gx, 2, none⟩) hB).trans hcell)
theorem over_63 (d : Int) (gx blk off size : Nat) (w : World) (hB : gx < w.heap.size) (hne : gx ≠ blk) (hcell : w.cell? ⟨gx, 2, none⟩ = some (.int .i64 d)) :
    PredOver Tryz.prog 63 #[.pointer (some ⟨gx, 0, none⟩)] (Value.int .i64) (fun x => decide (x = d)) blk off size w :=
  fun n os dk x _ => gives_63 d x gx _ (by
    unfold sortWorld
    rw [cell?_grow _ _ _ (by show gx < (putRow _ _ _ _ _).heap.size; rw [size_putRow]; exact hB), cell?_putRow_other _ _ blk off _ _ (Or.inl hne)]
    exact hcell)
/-- a list without one number -/
def less (l : List Int) (d : Int) : List Int := l.filter fun x => !decide (x = d)
theorem less_len (l : List Int) (d : Int) : (less l d).length ≤ l.length := List.length_filter_le _ _
set_option maxRecDepth 20000 in
set_option maxHeartbeats 2000000 in
theorem del_61 (base gx : Nat) (v : Value) (l : List Int) (d : Int) (cs : Array Value) (w : World) (hn : l.length ≤ 4096) (hown : w.ownsRow base 3 1 v l.length (ints l)) (hx : w.heap[gx]? = some (.cells cs 50 (0, 0))) (hc : w.cell? ⟨gx, 2, none⟩ = some (.int .i64 d)) :
    Calls Tryz.prog 61 #[v, .func (.func 63) #[] #[.pointer (some ⟨gx, 0, none⟩)]] w fun e w' => ∃ A c, e = .returned (.slice A (less l d).length c) ∧ w'.ownsRow base 3 1 (.slice A (less l d).length c) (less l d).length (ints (less l d)) ∧ w.grownBy w' v.ownBlock := by
  have hB := (Array.getElem?_eq_some_iff.1 hx).1
  have eg : ∀ args w, (callFunc 63 args).run Tryz.prog w = .ok (.enter 63 args) w := enters_of Tryz.func63 (by kernel_rfl) rfl
  rcases hown.2 with ⟨rfl, hz⟩ | ⟨gb, cap, cur, rfl, hbase, hgb, r1, r2, r3, r4⟩
  · obtain rfl : l = [] := List.eq_nil_of_length_eq_zero hz
    have HI := Lib.hid (index_97 63 eg ⟨gx, 0, none⟩ (fun x => decide (x = d)) none 0 0 [] w rfl (Nat.zero_le _) Rd.nil (fun a W hb => (gives_63 d a gx W ((hb.cell (p := ⟨gx, 2, none⟩) hB).trans hc)).mono fun e W' ⟨h1, q, h2⟩ => ⟨h1, by subst h2; exact below_drewN' (Below.refl _ _) q⟩))
    go_enter Tryz.func61, Tryz.ntmps61
    go_wp2_with (go_at_call 97; refine HI.out.mono ?_; rintro e w1 ⟨rfl, hb1⟩; have HB1 := Lib.hid hb1; clear hb1)
    go_ret
    exact ⟨none, 0, rfl, by simpa [less, ints] using World.ownsRow_nil _ _ _ _, grown_of_below HB1.out none⟩
  · have hH : Holds (Value.int .i64) w gb 0 l.toArray := holds_of_block_i hgb (by simpa [ints] using r4)
    have hne : gx ≠ gb := fun e => by rw [e, hgb] at hx; simp at hx
    have hcon := AnyE.slices_DeleteFunc delA (Value.int .i64) (fun _ => rfl) (fun x => decide (x = d)) 63 #[.pointer (some ⟨gx, 0, none⟩)] eg 0 Tryz.zeroValue3 gb 0 cap l.toArray w (pred_63 d gx w hB hc) (over_63 d gx gb 0 l.toArray.size w hB hne hc) hH (by simp; omega) (by simpa using r1)
    simp only [List.size_toArray] at hcon
    change Calls Tryz.prog 61 _ _ _ at hcon
    refine hcon.mono ?_
    rintro e w' ⟨rfl, q, rfl⟩
    have hl' : (less l d).length ≤ l.length := less_len l d
    have hfull := ownsRow_sorted_i (os := #[]) (n := q) (ss := l) (ts := less l d ++ List.replicate (l.length - (less l d).length) 0) (by simp; omega) hbase hgb r1 r2 r3
    have hgr : grow (putRow encZ (Sort.ahead w q) gb 0 (less l d ++ List.replicate (l.length - (less l d).length) 0).toArray) #[] = putRow encZ (Sort.ahead w q) gb 0 (less l d ++ List.replicate (l.length - (less l d).length) 0).toArray := by simp [grow]; rfl
    have hg2 := grownBy_sorted_i (w := w) (g := gb) (n := q) (os := #[]) (less l d ++ List.replicate (l.length - (less l d).length) 0).toArray
    rw [hgr] at hfull hg2
    refine ⟨some ⟨gb, 0, none⟩, cap, rfl, ?_, hg2⟩
    rcases Nat.eq_zero_or_pos l.length with h0 | h0
    · obtain rfl : l = [] := List.eq_nil_of_length_eq_zero h0
      simpa [less, ints] using hfull
    · have := own_take hfull (n' := (less l d).length) hl' h0
      rw [List.map_append, List.take_left' (by simp)] at this
      exact this
end Go.Proofs.YthgbmhpfblgjcaaGreatDoor.fl
namespace Go.Proofs.YthgbmhpfblgjcaaGreatDoor.fl
open Go.RowKit Go.Shelf
open M T ty
set_option linter.unusedVariables false
set_option maxRecDepth 20000 in
set_option maxHeartbeats 4000000 in
theorem kept_34 {W : World} {pb : Nat} {f : Fn} {L : FLay} {P : PLay} {rc : List Bool} {s : Ins} (h : PaAt W W.heap.size pb f L P rc s) (hn4 : f.bl.length ≤ 4096) {b e : Nat} {x : Bl} (hx : f.bl[b]? = some x) (he : x.ex.els = (e : Int)) (hel : e < f.bl.length) (hll : (liveIn rc s e).length ≤ 4096) :
    Calls Tryz.prog 34 #[.pointer (some ⟨pb, 0, none⟩), .int .i64 b] W fun e' w' => ∃ v, e' = .returned v ∧ IntsAt w' W.heap.size v (less (liveIn rc s e) x.ex.d) ∧ Below W.heap.size W w' := by
  have hb : b < f.bl.length := (List.getElem?_eq_some_iff.1 hx).1
  have hbI : (b : Int) < (f.bl.length : Int) := by omega
  have heI : (e : Int) < (f.bl.length : Int) := by omega
  obtain ⟨c2, c4, c5, c6, c7⟩ := h.cells
  obtain ⟨ad, p, x', e1, hx', hp, -, a0, a1, a2, a3, a4, a5⟩ := bl_at h.fn.bls hb
  rw [hx] at hx'
  obtain rfl := Option.some.inj hx'
  rw [e1] at c4
  rw [he] at a5
  have hpl := h.lt
  obtain ⟨ad2, p2, l, e2, hl, hp2, hp2l, g0, hrd⟩ := row_at h.inn (k := e) (by simpa using hel)
  have hl2 : l = liveIn rc s e := by
    have := hl
    simp [List.getElem?_map, List.getElem?_range, hel] at this
    exact this.symm
  subst hl2
  obtain rfl := Option.some.inj e2
  have ep2 : p2 = ⟨P.gi, e, none⟩ := by rw [← hp2]; unfold Addr.add; split <;> simp_all
  subst ep2
  clear hp2
  have HRD := Lib.hid hrd
  have HP := Lib.hid h
  generalize hd : x.ex.d = d at *
  have HXB : Hid ((W.alloc (.cells #[.int .i64 x.ex.k, .int .i64 x.ex.a, .int .i64 d, .int .i64 x.ex.to, .int .i64 e] 50)).heap[W.heap.size]? = some (.cells #[.int .i64 x.ex.k, .int .i64 x.ex.a, .int .i64 d, .int .i64 x.ex.to, .int .i64 e] 50 (0, 0))) := Lib.hid (heap_alloc_new W _)
  have hBA := (Below.refl W.heap.size W).alloc (Nat.le_refl _) (.cells #[.int .i64 x.ex.k, .int .i64 x.ex.a, .int .i64 d, .int .i64 x.ex.to, .int .i64 e] 50)
  have HBA := Lib.hid hBA
  have HCL := Lib.hid (clone_62 (P.Ai e) (P.ci e) (liveIn rc s e) (W.alloc (.cells #[.int .i64 x.ex.k, .int .i64 x.ex.a, .int .i64 d, .int .i64 x.ex.to, .int .i64 e] 50)).drew ((hrd.below hBA.drew).more hBA.size) hll)
  have k7 : (W.alloc (.cells #[.int .i64 x.ex.k, .int .i64 x.ex.a, .int .i64 d, .int .i64 x.ex.to, .int .i64 e] 50)).cell? ⟨pb, 7, none⟩ = some (.slice (some ⟨P.gi, 0, none⟩) f.bl.length f.bl.length) := (hBA.cell (p := ⟨pb, 7, none⟩) hpl).trans c7
  have k8 := (hBA.cell (p := ⟨P.gi, e, none⟩) hp2l).trans g0
  clear h hx hl hrd e1 he hd hBA
  go_enter Tryz.func34, Tryz.ntmps34
  go_wp2_with fail
  have hw1 : (W.alloc (.cells #[.int .i64 x.ex.k, .int .i64 x.ex.a, .int .i64 d, .int .i64 x.ex.to, .int .i64 e] 50)).heap.size = W.heap.size + 1 := World.size_alloc _ _
  generalize (W.alloc (.cells #[.int .i64 x.ex.k, .int .i64 x.ex.a, .int .i64 d, .int .i64 x.ex.to, .int .i64 e] 50)) = W1 at *
  have j4 := Go.Joins.cell_of_block HXB.out 4
  have K0 : Hid (W1.drew.cell? ⟨pb, 7, none⟩ = some (.slice (some ⟨P.gi, 0, none⟩) f.bl.length f.bl.length) ∧ W1.drew.cell? ⟨W.heap.size, 4, none⟩ = some (.int .i64 (e : Int)) ∧ W1.drew.cell? ⟨P.gi, e, none⟩ = some (.slice (P.Ai e) (liveIn rc s e).length (P.ci e))) := Lib.hid ⟨k7, j4, k8⟩
  go_region_held3 (fun Wx => Wx.cell? ⟨pb, 7, none⟩ = some (.slice (some ⟨P.gi, 0, none⟩) f.bl.length f.bl.length) ∧ Wx.cell? ⟨W.heap.size, 4, none⟩ = some (.int .i64 (e : Int)) ∧ Wx.cell? ⟨P.gi, e, none⟩ = some (.slice (P.Ai e) (liveIn rc s e).length (P.ci e)))
    (first | exact K0.out | exact K1.out | exact K2.out)
    (first
      | (go_at_call 62; go_loud ((refine HCL.out.mono ?_; rintro e9 w2 ⟨v, rfl, hv, hb2⟩; obtain ⟨A6, c6, rfl, ho⟩ := hv; have hx2 := (hb2.block W.heap.size (show W.heap.size < W1.heap.size by omega)).trans HXB.out; have K1 : Hid (w2.cell? ⟨pb, 7, none⟩ = some (.slice (some ⟨P.gi, 0, none⟩) f.bl.length f.bl.length) ∧ w2.cell? ⟨W.heap.size, 4, none⟩ = some (.int .i64 (e : Int)) ∧ w2.cell? ⟨P.gi, e, none⟩ = some (.slice (P.Ai e) (liveIn rc s e).length (P.ci e))) := Lib.hid ⟨(hb2.cell (p := ⟨pb, 7, none⟩) (show pb < W1.heap.size by omega)).trans k7, Go.Joins.cell_of_block hx2 4, (hb2.cell (p := ⟨P.gi, e, none⟩) (show P.gi < W1.heap.size by have h9 : P.gi < W.heap.size := hp2l; omega)).trans k8⟩; have HX2 := Lib.hid hx2; have HO := Lib.hid ho; have HB2 := Lib.hid hb2; clear hx2 ho hb2)))
      | (go_at_call 61; go_loud ((refine (del_61 W1.heap.size W.heap.size _ (liveIn rc s e) d _ w2 hll HO.out HX2.out (Go.Joins.cell_of_block HX2.out 2)).mono ?_; rintro e9 w3 ⟨A7, c7, rfl, ho3, hg3⟩; have K2 : Hid (w3.cell? ⟨pb, 7, none⟩ = some (.slice (some ⟨P.gi, 0, none⟩) f.bl.length f.bl.length) ∧ w3.cell? ⟨W.heap.size, 4, none⟩ = some (.int .i64 (e : Int)) ∧ w3.cell? ⟨P.gi, e, none⟩ = some (.slice (P.Ai e) (liveIn rc s e).length (P.ci e))) := Lib.hid (by
          have hs2 : W1.heap.size ≤ w2.heap.size := HB2.out.size
          have h9 : P.gi < W.heap.size := hp2l
          have key : ∀ g, g < W1.heap.size → w3.heap[g]? = w2.heap[g]? := fun g hg => hg3.block g (Nat.lt_of_lt_of_le hg hs2) (fun e' => absurd ((HO.out.lt g e'.symm).1 : W1.heap.size ≤ g) (Nat.not_le_of_lt hg))
          exact ⟨(cell_of_heap (p := ⟨pb, 7, none⟩) (key pb (by omega))).trans K1.out.1, (cell_of_heap (p := ⟨W.heap.size, 4, none⟩) (key W.heap.size (by omega))).trans K1.out.2.1, (cell_of_heap (p := ⟨P.gi, e, none⟩) (key P.gi (by omega))).trans K1.out.2.2⟩); have HO3 := Lib.hid ho3; have HG3 := Lib.hid hg3; clear ho3 hg3))))
  all_goals
    go_wp2_with fail
    go_ret
    have hb3 : Below W.heap.size W w3 := (HBA.out.drew.trans (HB2.out.mono (show W.heap.size ≤ W1.heap.size by omega))).grown HG3.out (show W.heap.size ≤ w2.heap.size from Nat.le_trans (show W.heap.size ≤ W1.heap.size by omega) HB2.out.size) (fun g hg => Nat.le_trans (show W.heap.size ≤ W1.heap.size by omega) (HO.out.lt g hg).1)
    exact ⟨_, rfl, ⟨A7, c7, rfl, own_base HO3.out (show W.heap.size ≤ W1.heap.size by omega)⟩, hb3⟩
end Go.Proofs.YthgbmhpfblgjcaaGreatDoor.fl
namespace Go.Proofs.YthgbmhpfblgjcaaGreatDoor.fl
open Go.RowKit Go.Shelf
open M T ty
set_option linter.unusedVariables false
def dmark (bs : List Bool) (d : Int) : List Bool := if 0 ≤ d then bs.set d.toNat true else bs
theorem dmark_len (bs : List Bool) (d : Int) : (dmark bs d).length = bs.length := by unfold dmark; split <;> simp
theorem dmark_get {bs : List Bool} {d : Int} (hd : d < bs.length) (j : Nat) : (dmark bs d)[j]? = some true ↔ bs[j]? = some true ∨ (j : Int) = d := by
  unfold dmark
  split
  · rename_i h0
    rw [List.getElem?_set]
    have hl : d.toNat < bs.length := by omega
    by_cases e : d.toNat = j
    · rw [if_pos e, if_pos hl]
      simp
      right
      omega
    · rw [if_neg e]
      constructor
      · exact .inl
      · rintro (h | h)
        · exact h
        · omega
  · rename_i h0
    constructor
    · exact .inl
    · rintro (h | h)
      · exact h
      · omega
def dmarks (ops : List Op) (bs : List Bool) : List Bool := ops.foldl (fun b o => dmark b o.d) bs
theorem dmarks_len (ops : List Op) : ∀ bs : List Bool, (dmarks ops bs).length = bs.length := by
  induction ops with
  | nil => intro bs; rfl
  | cons o ops ih => intro bs; exact (ih _).trans (dmark_len _ _)
theorem dmarks_get : ∀ (ops : List Op) (bs : List Bool), (∀ o ∈ ops, o.d < bs.length) → ∀ j : Nat, (dmarks ops bs)[j]? = some true ↔ bs[j]? = some true ∨ ∃ o ∈ ops, (j : Int) = o.d
  | [], bs, _, j => by simp [dmarks]
  | o :: ops, bs, h, j => by
    have h1 := dmarks_get ops (dmark bs o.d) (fun p hp => by rw [dmark_len]; exact h p (List.mem_cons_of_mem _ hp)) j
    have h2 := dmark_get (h o List.mem_cons_self) j
    show (dmarks ops (dmark bs o.d))[j]? = some true ↔ _
    rw [h1, h2]
    constructor
    · rintro ((h | h) | ⟨p, hp, h⟩)
      · exact .inl h
      · exact .inr ⟨o, List.mem_cons_self, h⟩
      · exact .inr ⟨p, List.mem_cons_of_mem _ hp, h⟩
    · rintro (h9 | ⟨p, hp, h9⟩)
      · exact .inl (.inl h9)
      · rcases List.mem_cons.1 hp with e | hp
        · exact .inl (.inr (e ▸ h9))
        · exact .inr ⟨p, hp, h9⟩
theorem dmarks_snoc (ops : List Op) (bs : List Bool) {j : Nat} {o : Op} (h : ops[j]? = some o) : dmarks (ops.take (j + 1)) bs = dmark (dmarks (ops.take j) bs) o.d := by
  unfold dmarks
  rw [List.take_add_one, h, Option.toList_some, List.foldl_append]
  rfl
/-- a block writes a register -/
def wby (y : Bl) (d : Int) : Prop := (∃ o ∈ y.ops, d = o.d) ∨ (y.ex.k = 4 ∧ d = y.ex.d)
def wrB (y : Bl) (bs : List Bool) : List Bool := if y.ex.k = 4 then dmark (dmarks y.ops bs) y.ex.d else dmarks y.ops bs
theorem wrB_len (y : Bl) (bs : List Bool) : (wrB y bs).length = bs.length := by
  unfold wrB
  split
  · rw [dmark_len, dmarks_len]
  · rw [dmarks_len]
theorem wrB_get {y : Bl} {bs : List Bool} (ho : ∀ o ∈ y.ops, o.d < bs.length) (hx : y.ex.k = 4 → y.ex.d < bs.length) (j : Nat) : (wrB y bs)[j]? = some true ↔ bs[j]? = some true ∨ wby y (j : Int) := by
  unfold wrB wby
  split
  · rename_i hk
    rw [dmark_get (by rw [dmarks_len]; exact hx hk), dmarks_get _ _ ho]
    constructor
    · rintro ((h | h) | h)
      · exact .inl h
      · exact .inr (.inl h)
      · exact .inr (.inr ⟨hk, h⟩)
    · rintro (h | h | ⟨_, h⟩)
      · exact .inl (.inl h)
      · exact .inl (.inr h)
      · exact .inr h
  · rename_i hk
    rw [dmarks_get _ _ ho]
    constructor
    · rintro (h | h)
      · exact .inl h
      · exact .inr (.inl h)
    · rintro (h | h | ⟨h, _⟩)
      · exact .inl h
      · exact .inr h
      · exact absurd h hk
/-- there is a way from a set to a block -/
def Rch (tt : List (List Int)) (x : Ex) (b : Int) : Prop := Way tt (-1) x.to b ∨ Way tt (-1) x.els b
/-- the registers that something between writes -/
def Btw (bl : List Bl) (x : Ex) (r : Nat) (out : List Bool) : Prop := out.length = r ∧ ∀ j : Nat, j < r → (out[j]? = some true ↔ ∃ (b : Nat) (y : Bl), Rch (tos bl) x b ∧ bl[b]? = some y ∧ wby y j)
theorem Btw.unique {bl : List Bl} {x : Ex} {r : Nat} {s t : List Bool} (h : Btw bl x r s) (k : Btw bl x r t) : s = t := by
  apply List.ext_getElem (h.1.trans k.1.symm)
  intro i h1 h2
  have hl : i < r := by rw [← h.1]; exact h1
  have a1 := h.2 i hl
  have a2 := k.2 i hl
  rw [List.getElem?_eq_getElem h1] at a1
  rw [List.getElem?_eq_getElem h2] at a2
  have a3 := a1.trans a2.symm
  cases hs : s[i] <;> cases ht : t[i] <;> simp_all
structure Bw (bl : List Bl) (x : Ex) (r : Nat) (seen out : List Bool) (todo : List Int) : Prop where
  len : seen.length = bl.length
  olen : out.length = r
  sound : ∀ b : Nat, seen[b]? = some true → Rch (tos bl) x b
  mem : ∀ k ∈ todo, (0 ≤ k ∧ k < bl.length) ∧ Rch (tos bl) x k
  st : ∀ a, a = x.to ∨ a = x.els → a ∈ todo ∨ seen[a.toNat]? = some true
  clos : ∀ b : Nat, seen[b]? = some true → ∀ l, (tos bl)[b]? = some l → ∀ c ∈ l, c ∈ todo ∨ seen[c.toNat]? = some true
  out : ∀ j : Nat, j < r → (out[j]? = some true ↔ ∃ (b : Nat) (y : Bl), seen[b]? = some true ∧ bl[b]? = some y ∧ wby y j)
section
variable {bl : List Bl} {x : Ex} {r : Nat} {seen out : List Bool} {todo : List Int}
theorem Bw.init (h1 : 0 ≤ x.to ∧ x.to < bl.length) (h2 : 0 ≤ x.els ∧ x.els < bl.length) : Bw bl x r (List.replicate bl.length false) (List.replicate r false) [x.to, x.els] := by
  have no : ∀ (n j : Nat), (List.replicate n false)[j]? ≠ some true := fun n j h => by
    rw [List.getElem?_replicate] at h
    split at h <;> cases h
  refine ⟨by simp, by simp, fun b h => absurd h (no _ _), fun k hk => ?_, fun a ha => .inl (by rcases ha with rfl | rfl <;> simp), fun b h => absurd h (no _ _), fun j hj => ?_⟩
  · rcases List.mem_cons.1 hk with rfl | hk
    · exact ⟨h1, .inl (.here (by omega))⟩
    · rw [List.mem_singleton] at hk
      subst hk
      exact ⟨h2, .inr (.here (by omega))⟩
  · constructor
    · intro h; exact absurd h (no _ _)
    · rintro ⟨b, y, h, -⟩; exact absurd h (no _ _)
theorem Bw.old {k : Nat} (h : Bw bl x r seen out (todo ++ [(k : Int)])) (hk : seen[k]? = some true) : Bw bl x r seen out todo := by
  have go : ∀ a : Int, a ∈ todo ++ [(k : Int)] ∨ seen[a.toNat]? = some true → a ∈ todo ∨ seen[a.toNat]? = some true := fun a ha => by
    rcases ha with ha | ha
    · rcases List.mem_append.1 ha with ha | ha
      · exact .inl ha
      · rw [List.mem_singleton] at ha
        subst ha
        exact .inr (by rw [Int.toNat_natCast]; exact hk)
    · exact .inr ha
  exact ⟨h.len, h.olen, h.sound, fun j hj => h.mem j (List.mem_append_left _ hj), fun a ha => go a (h.st a ha), fun b hb l hl c hc => go c (h.clos b hb l hl c hc), h.out⟩
theorem Bw.new {k : Nat} {y : Bl} {l l' : List Int} (h : Bw bl x r seen out (todo ++ [(k : Int)])) (hk : seen[k]? = some false) (hy : bl[k]? = some y) (hcl : Closed (tos bl)) (hl : (tos bl)[k]? = some l) (hll : ∀ c, c ∈ l' ↔ c ∈ l)
    (ho : ∀ o ∈ y.ops, o.d < (r : Int)) (hx : y.ex.k = 4 → y.ex.d < (r : Int)) : Bw bl x r (seen.set k true) (wrB y out) (todo ++ l') := by
  have hkl : k < seen.length := (List.getElem?_eq_some_iff.1 hk).1
  have hr := (h.mem k (by simp)).2
  have go : ∀ a : Int, 0 ≤ a → a ∈ todo ++ [(k : Int)] ∨ seen[a.toNat]? = some true → a ∈ todo ++ l' ∨ (seen.set k true)[a.toNat]? = some true := fun a h0 ha => by
    rcases ha with ha | ha
    · rcases List.mem_append.1 ha with ha | ha
      · exact .inl (List.mem_append_left _ ha)
      · rw [List.mem_singleton] at ha
        subst ha
        exact .inr (by rw [Int.toNat_natCast]; exact set_get hkl)
    · exact .inr (set_true ha hkl)
  have hst0 : ∀ a, a = x.to ∨ a = x.els → 0 ≤ a ∨ seen[a.toNat]? = some true := fun a ha => by
    rcases h.st a ha with h1 | h1
    · exact .inl (h.mem a h1).1.1
    · exact .inr h1
  refine ⟨by simpa using h.len, (wrB_len _ _).trans h.olen, fun b hb => ?_, fun j hj => ?_, fun a ha => ?_, fun b hb m hm c hc => ?_, fun j hj => ?_⟩
  · rcases set_was hb with rfl | hb
    · exact hr
    · exact h.sound b hb
  · rcases List.mem_append.1 hj with hj | hj
    · exact h.mem j (List.mem_append_left _ hj)
    · have hj' := (hll j).1 hj
      have hc := hcl l (List.mem_of_getElem? hl) j hj'
      have hc2 := hc.2
      rw [tos_len] at hc2
      refine ⟨⟨hc.1, hc2⟩, ?_⟩
      rcases hr with hr | hr
      · exact .inl (.step hr (by omega) (by simpa using hl) hj' (by omega))
      · exact .inr (.step hr (by omega) (by simpa using hl) hj' (by omega))
  · rcases hst0 a ha with h0 | h0
    · exact go a h0 (h.st a ha)
    · exact .inr (set_true h0 hkl)
  · have hcc := hcl m (List.mem_of_getElem? hm) c hc
    rcases set_was hb with rfl | hb
    · rw [hl] at hm
      cases hm
      exact .inl (List.mem_append_right _ ((hll c).2 hc))
    · exact go c hcc.1 (h.clos b hb m hm c hc)
  · rw [wrB_get (by rw [h.olen]; exact ho) (by rw [h.olen]; exact hx), h.out j hj]
    constructor
    · rintro (⟨b, z, h1, h2, h3⟩ | h1)
      · exact ⟨b, z, set_true h1 hkl, h2, h3⟩
      · exact ⟨k, y, set_get hkl, hy, h1⟩
    · rintro ⟨b, z, h1, h2, h3⟩
      rcases set_was h1 with rfl | h1
      · rw [hy] at h2
        cases h2
        exact .inr h3
      · exact .inl ⟨b, z, h1, h2, h3⟩
theorem Bw.fin (h : Bw bl x r seen out []) (hcl : Closed (tos bl)) (h1 : 0 ≤ x.to ∧ x.to < bl.length) (h2 : 0 ≤ x.els ∧ x.els < bl.length) : Btw bl x r out := by
  have key : ∀ a : Int, (a = x.to ∨ a = x.els) → ∀ d : Int, Way (tos bl) (-1) a d → 0 ≤ d ∧ seen[d.toNat]? = some true := by
    intro a ha d hd
    induction hd with
    | here _ =>
      refine ⟨by rcases ha with rfl | rfl <;> omega, ?_⟩
      rcases h.st a ha with h3 | h3
      · cases h3
      · exact h3
    | step _ h0 hl hm _ ih =>
      have hc := hcl _ (List.mem_of_getElem? hl) _ hm
      refine ⟨hc.1, ?_⟩
      rcases h.clos _ ih.2 _ hl _ hm with h3 | h3
      · cases h3
      · exact h3
  refine ⟨h.olen, fun j hj => ?_⟩
  rw [h.out j hj]
  constructor
  · rintro ⟨b, y, h3, h4, h5⟩
    exact ⟨b, y, h.sound b h3, h4, h5⟩
  · rintro ⟨b, y, h3, h4, h5⟩
    refine ⟨b, y, ?_, h4, h5⟩
    rcases h3 with h3 | h3
    · have := (key _ (.inl rfl) _ h3).2
      simpa using this
    · have := (key _ (.inr rfl) _ h3).2
      simpa using this
end
end Go.Proofs.YthgbmhpfblgjcaaGreatDoor.fl
namespace Go.Proofs.YthgbmhpfblgjcaaGreatDoor.fl
open Go.RowKit Go.Shelf
open M T ty
set_option linter.unusedVariables false
theorem add_none (g j : Nat) : Addr.add ⟨g, 0, none⟩ j = ⟨g, j, none⟩ := by unfold Addr.add; split <;> simp_all
/-- the variables of between stand -/
structure EnvW (w W : World) (sb ob : Nat) (seen out : List Bool) (v : Value) (todo : List Int) : Prop where
  b0 : Below w.heap.size w W
  s : BoolsAt W sb seen
  o : BoolsAt W ob out
  t : W.ownsRow w.heap.size 3 1 v todo.length (ints todo)
  d : sb ≠ ob
  l1 : w.heap.size ≤ sb
  l2 : w.heap.size ≤ ob
section
variable {w W W' : World} {sb ob : Nat} {seen out : List Bool} {v : Value} {todo : List Int}
theorem off_bools {W : World} {lo g : Nat} {l : List Bool} {v : Value} {k : Nat} {xs : List Value} (hg : BoolsAt W g l) (h : W.ownsRow lo 3 1 v k xs) : v.ownBlock ≠ some g := by
  intro e
  rcases h.2 with ⟨rfl, -⟩ | ⟨b, cap, cur, rfl, -, hb, -⟩
  · simp [Value.ownBlock] at e
  · obtain rfl : b = g := by simpa [Value.ownBlock] using e
    have := hg.symm.trans hb
    simp at this
theorem EnvW.after (h : EnvW w W sb ob seen out v todo) (hb : Below W.heap.size W W') : EnvW w W' sb ob seen out v todo :=
  ⟨h.b0.trans (hb.mono h.b0.size), h.s.below hb h.s.lt, h.o.below hb h.o.lt, own_below_size h.t hb, h.d, h.l1, h.l2⟩
theorem EnvW.alloc (h : EnvW w W sb ob seen out v todo) (o : Obj) : EnvW w (W.alloc o) sb ob seen out v todo := h.after ((Below.refl _ _).alloc (Nat.le_refl _) _)
theorem EnvW.drew (h : EnvW w W sb ob seen out v todo) : EnvW w W.drew sb ob seen out v todo := h.after (Below.refl _ _).drew
theorem EnvW.setS (h : EnvW w W sb ob seen out v todo) (j : Nat) : EnvW w (W.setCell ⟨sb, j, none⟩ (.bool true)) sb ob (seen.set j true) out v todo :=
  ⟨h.b0.setCell (p := ⟨sb, j, none⟩) h.l1 _, h.s.set j true, (heap_other _ (Ne.symm h.d)).trans h.o, own_keep h.t (grown_setCell W ⟨sb, j, none⟩ _) (fun b hb e => off_bools h.s h.t (by rw [hb, ← e])), h.d, h.l1, h.l2⟩
theorem EnvW.setO (h : EnvW w W sb ob seen out v todo) (j : Nat) : EnvW w (W.setCell ⟨ob, j, none⟩ (.bool true)) sb ob seen (out.set j true) v todo :=
  ⟨h.b0.setCell (p := ⟨ob, j, none⟩) h.l2 _, (heap_other _ h.d).trans h.s, h.o.set j true, own_keep h.t (grown_setCell W ⟨ob, j, none⟩ _) (fun b hb e => off_bools h.o h.t (by rw [hb, ← e])), h.d, h.l1, h.l2⟩
theorem EnvW.app {v' : Value} {todo' : List Int} (h : EnvW w W sb ob seen out v todo) (h1 : W'.ownsRow w.heap.size 3 1 v' todo'.length (ints todo')) (hg : W.grownBy W' v.ownBlock) : EnvW w W' sb ob seen out v' todo' :=
  ⟨h.b0.grown hg h.b0.size (fun g hg => (h.t.lt g hg).1), (hg.block _ h.s.lt (fun e => off_bools h.s h.t e.symm)).trans h.s, (hg.block _ h.o.lt (fun e => off_bools h.o h.t e.symm)).trans h.o, h1, h.d, h.l1, h.l2⟩
end
set_option maxRecDepth 20000 in
set_option maxHeartbeats 8000000 in
theorem between_35 {W : World} {pb r : Nat} {f : Fn} {L : FLay} {P : PLay} {rc : List Bool} {s : Ins} (h : PaAt W W.heap.size pb f L P rc s) (hgood : Good 4611686018427387904 f) (hr : f.regs = (r : Int)) (hr4 : r ≤ 4096) {b : Nat} {x : Bl} (hx : f.bl[b]? = some x) (hk4 : x.ex.k = 4) :
    Calls Tryz.prog 35 #[.pointer (some ⟨pb, 0, none⟩), .int .i64 b] W fun e w' => ∃ ob out, e = .returned (.slice (some ⟨ob, 0, none⟩) r r) ∧ Btw f.bl x.ex r out ∧ BoolsAt w' ob out ∧ W.heap.size ≤ ob ∧ Below W.heap.size W w' := by
  have hb : b < f.bl.length := (List.getElem?_eq_some_iff.1 hx).1
  have hbl4 : f.bl.length ≤ 4096 := hgood.b4
  have hbI : (b : Int) < (f.bl.length : Int) := by omega
  obtain ⟨c2, c4, c5, c6, c7⟩ := h.cells
  rw [hr] at c2
  obtain ⟨ad, p, x', e1, hx', hp, hpl, a0, a1, a2, a3, a4, a5⟩ := bl_at h.fn.bls hb
  rw [hx] at hx'
  obtain rfl := Option.some.inj hx'
  rw [e1] at c4
  have hto := hgood.to x (List.mem_of_getElem? hx)
  have t1 : 0 ≤ x.ex.to ∧ x.ex.to < f.bl.length := hto _ (by unfold exitTo; rw [hk4]; simp)
  have t2 : 0 ≤ x.ex.els ∧ x.ex.els < f.bl.length := hto _ (by unfold exitTo; rw [hk4]; simp)
  have HP := Lib.hid h
  have HB0 := Lib.hid (Bw.init (r := r) t1 t2)
  have hpbl := h.lt
  have hm1 := run_make_row' (P := Tryz.prog) 84 4 (.bool false) 1 Tryz.underlying84 info4 rfl .i64 .i64 f.bl.length (by omega) (by omega)
  have hm2 := run_make_row' (P := Tryz.prog) 94 4 (.bool false) 1 Tryz.underlying94 info4 rfl .i64 .i64 r (by omega) (by omega)
  clear h hx hk4 hto
  have HE0 : Hid (EnvW W ((((W.alloc (.cells (madeCells #[Value.bool false] f.bl.length) 4)).alloc (.cells (madeCells #[Value.bool false] r) 4)).alloc (.cells #[.int .i64 x.ex.k, .int .i64 x.ex.a, .int .i64 x.ex.d, .int .i64 x.ex.to, .int .i64 x.ex.els] 50)).alloc (.cells #[.int .i64 x.ex.to, .int .i64 x.ex.els] 3)) W.heap.size (W.heap.size + 1) (List.replicate f.bl.length false) (List.replicate r false) (.slice (some ⟨W.heap.size + 1 + 1 + 1, 0, none⟩) 2 2) [x.ex.to, x.ex.els]) := Lib.hid (by
    rw [made_false, made_false]
    refine ⟨?_, ?_, ?_, ?_, by omega, Nat.le_refl _, Nat.le_succ _⟩
    · exact ((((Below.refl _ _).alloc (Nat.le_refl _) _).alloc (by simp) _).alloc (by simp; omega) _).alloc (by simp; omega) _
    · exact (heap_alloc_lt _ _ (by simp; omega)).trans ((heap_alloc_lt _ _ (by simp; omega)).trans ((heap_alloc_lt _ _ (by simp)).trans (heap_alloc_new W _)))
    · refine (heap_alloc_lt _ _ (by simp)).trans ((heap_alloc_lt _ _ (by simp)).trans ?_)
      have := heap_alloc_new (W.alloc (.cells (bools (List.replicate f.bl.length false)).toArray 4)) (.cells (bools (List.replicate r false)).toArray 4)
      rw [World.size_alloc] at this
      exact this
    · obtain ⟨A', c', e, ho⟩ := IntsAt.two (((W.alloc (.cells (bools (List.replicate f.bl.length false)).toArray 4)).alloc (.cells (bools (List.replicate r false)).toArray 4)).alloc (.cells #[.int .i64 x.ex.k, .int .i64 x.ex.a, .int .i64 x.ex.d, .int .i64 x.ex.to, .int .i64 x.ex.els] 50)) W.heap.size (by simp; omega) x.ex.to x.ex.els
      simp only [World.size_alloc] at e ho
      rw [e]
      exact ho)
  have HGOOD := Lib.hid hgood
  have HREG := Lib.hid hr
  have hus0 : unseen (List.replicate f.bl.length false) = f.bl.length := by simp [unseen]
  clear hgood hr
  go_enter Tryz.func35, Tryz.ntmps35
  go_wp2_with fail
  clear hm1 hm2
  generalize ((((W.alloc (.cells (madeCells #[Value.bool false] f.bl.length) 4)).alloc (.cells (madeCells #[Value.bool false] r) 4)).alloc (.cells #[.int .i64 x.ex.k, .int .i64 x.ex.a, .int .i64 x.ex.d, .int .i64 x.ex.to, .int .i64 x.ex.els] 50)).alloc (.cells #[.int .i64 x.ex.to, .int .i64 x.ex.els] 3)) = W3 at *
  go_loopg [8] (3 * f.bl.length + 2) (fun N t wr => ∃ seen out todo, N = 3 * unseen seen + todo.length ∧ EnvW W wr W.heap.size (W.heap.size + 1) seen out t todo ∧ Bw f.bl x.ex r seen out todo ∧ todo.length + 2 * unseen seen ≤ 2 + 2 * f.bl.length)
  case atStart => exact ⟨_, _, _, by rw [hus0]; rfl, HE0.out, HB0.out, by rw [hus0]; simp⟩
  case round =>
    obtain ⟨seen, out, todo, rfl, he, hw, hm⟩ := hrel
    clear HE0 HB0 hus0
    rcases List.eq_nil_or_concat todo with rfl | ⟨todo, k, rfl⟩
    · have HE := Lib.hid he
      have HF := Lib.hid (hw.fin HGOOD.out.closed t1 t2)
      obtain ⟨A9, c9, rfl, -, -⟩ := own_form he.t
      clear he hw
      go_wp2_with fail
      go_ret
      exact ⟨W.heap.size + 1, out, rfl, HF.out, HE.out.o, Nat.le_succ _, HE.out.b0⟩
    · rw [List.concat_eq_append] at *
      obtain ⟨⟨k0, k1⟩, -⟩ := hw.mem k (by simp)
      obtain ⟨m, rfl⟩ := Int.eq_ofNat_of_zero_le k0
      have hm1 : m < f.bl.length := by omega
      have hmI : (m : Int) < (f.bl.length : Int) := by omega
      obtain ⟨A9, c9, rfl, hc1, hc2⟩ := own_form he.t
      have hown := he.t
      have hlt : (todo ++ [(m : Int)]).length = todo.length + 1 := by simp
      rw [hlt] at hown hc1 hm
      rw [hlt]
      obtain ⟨y, rfl, hy0, hy1, hyc⟩ := own_at hown (by omega)
      have d0 := hyc todo.length (.int .i64 m) (by simp [ints])
      have hcut := own_take hown (n' := todo.length) (by omega) (by omega)
      have HE : Hid (EnvW W wr W.heap.size (W.heap.size + 1) seen out (.slice (some ⟨y, 0, none⟩) todo.length c9) todo) := Lib.hid ⟨he.b0, he.s, he.o, by simpa [ints] using hcut, he.d, he.l1, he.l2⟩
      have htl : (todo.length : Int) ≤ 16384 := by omega
      have hms : m < seen.length := by rw [hw.len]; exact hm1
      have hsm : seen[m]? = some seen[m] := List.getElem?_eq_getElem hms
      have d1 := he.s.cell hsm
      cases hsv : seen[m] with
      | true =>
        rw [hsv] at hsm d1
        have HW := Lib.hid (hw.old hsm)
        clear he hw hown hcut hyc hsm hsv
        go_wp2_with fail
        go_roundg (3 * unseen seen + todo.length)
        case measure => omega
        case rel => exact ⟨seen, out, todo, rfl, HE.out, HW.out, by omega⟩
      | false =>
        rw [hsv] at hsm d1
        have HSM := Lib.hid hsm
        have HW := Lib.hid hw
        have hus := unseen_set seen m hsm
        have he1 := HE.out.setS m
        have hf := HE.out.s.unfrozen m
        have hp1 := HP.out.below he1.b0
        obtain ⟨-, q4, -, q6, -⟩ := hp1.cells
        obtain ⟨ad2, p2, x2, e2, hx2, hp2, -, b0, -⟩ := bl_at hp1.fn.bls hm1
        rw [e2] at q4
        have hyb := List.mem_of_getElem? hx2
        have hol := ops_le HGOOD.out.sum hyb
        have holI : (x2.ops.length : Int) ≤ 4096 := by omega
        have HX2 := Lib.hid hx2
        have HE1 := Lib.hid he1
        have HOD : Hid (∀ o ∈ x2.ops, o.d < (r : Int)) := Lib.hid fun o ho => by have := (op_in (HGOOD.out.op x2 hyb o ho) HGOOD.out.r0).d; rw [HREG.out] at this; omega
        have HXD : Hid (x2.ex.k = 4 → 0 ≤ x2.ex.d ∧ x2.ex.d < (r : Int)) := Lib.hid fun h4 => by have := exit_set (HGOOD.out.ex x2 hyb) h4; rw [HREG.out] at this; omega
        clear he hw hown hcut hyc hsm hsv he1 hp1 hx2 e2 hyb
        have HOPS := Lib.hid (HP.out.fn.bls.ops m x2 HX2.out)
        generalize L.OA m = OAm at *
        generalize L.oc m = ocm at *
        go_wp2_with fail
        clear d0 d1 q4 q6 b0
        go_loopg [71] x2.ops.length (fun N t wr2 => ∃ j, j ≤ x2.ops.length ∧ N = x2.ops.length - j ∧ t = .int .i64 j ∧ EnvW W wr2 W.heap.size (W.heap.size + 1) (seen.set m true) (dmarks (x2.ops.take j) out) (.slice (some ⟨y, 0, none⟩) todo.length c9) todo)
        case atStart => exact ⟨0, by omega, rfl, rfl, by rw [List.take_zero]; exact HE1.out⟩
        case round =>
          clear HE1
          obtain ⟨j, hj, rfl, rfl, he⟩ := hrel
          by_cases hlj : j < x2.ops.length
          · have hops := HOPS.out.keep (fun q hq => he.b0.cell hq) he.b0.size
            obtain ⟨ad3, p3, o, rfl, ho, hp3, -, o0, o1, o2, o3, o4, o5, o6⟩ := op_at hops hlj
            have hljI : (j : Int) < (x2.ops.length : Int) := by omega
            have hod := HOD.out o (List.mem_of_getElem? ho)
            have HN := Lib.hid (dmarks_snoc x2.ops out ho)
            have hlo : (dmarks (x2.ops.take j) out).length = r := by rw [dmarks_len, HW.out.olen]
            have HE := Lib.hid (he.alloc (.cells #[.int .i64 o.k, .int .i64 o.d, .int .i64 o.a, .int .i64 o.b, .int .i64 o.imm, .string o.text, .slice (L.AA m j) o.args.length (L.ac m j)] 72))
            have hob : W.heap.size + 1 ≠ wr.heap.size := by have := he.o.lt; omega
            have HOO := Lib.hid he.o
            clear hops ho he
            generalize L.AA m j = AAj at *
            generalize L.ac m j = acj at *
            by_cases h0 : 0 ≤ o.d
            · obtain ⟨dd, hdd⟩ := Int.eq_ofNat_of_zero_le h0
              rw [hdd] at hod o1 HE HN
              have hdr : (dd : Int) < (r : Int) := hod
              have HNE : Hid (dmarks (x2.ops.take (j + 1)) out = (dmarks (x2.ops.take j) out).set dd true) := Lib.hid (by rw [HN.out]; unfold dmark; rw [if_pos (by omega)]; simp)
              have hfd := HE.out.o.unfrozen dd
              have hget : (dmarks (x2.ops.take j) out)[dd]? = some ((dmarks (x2.ops.take j) out)[dd]'(by omega)) := List.getElem?_eq_getElem (by omega)
              have hcd := HE.out.o.cell hget
              have hfe := HOO.out.unfrozen dd
              have hce := HOO.out.cell hget
              have HES := Lib.hid (HE.out.setO dd)
              clear hget h0
              go_wp2_with fail
              go_roundg (x2.ops.length - (j + 1))
              case measure => omega
              case rel => exact ⟨j + 1, by omega, rfl, by go_num, by rw [HNE.out]; exact HES.out⟩
            · have HNE : Hid (dmarks (x2.ops.take (j + 1)) out = dmarks (x2.ops.take j) out) := Lib.hid (by rw [HN.out]; unfold dmark; rw [if_neg h0])
              have h0' : o.d < 0 := by omega
              clear h0
              go_wp2_with fail
              go_roundg (x2.ops.length - (j + 1))
              case measure => omega
              case rel => exact ⟨j + 1, by omega, rfl, by go_num, by rw [HNE.out]; exact HE.out⟩
          · obtain rfl : j = x2.ops.length := by omega
            rw [List.take_length] at he
            have hp1 := HP.out.below he.b0
            obtain ⟨-, q4, -, q6, -⟩ := hp1.cells
            obtain ⟨ad2', p2', x2', e2', hx2', hp2', -, b0, b1, b2, b3, b4, b5⟩ := bl_at hp1.fn.bls hm1
            rw [HX2.out] at hx2'
            obtain rfl := Option.some.inj hx2'
            rw [e2'] at q4
            obtain ⟨ad4, p4, l4, e4, hl4, hp4, hp4l, g0, hrd4⟩ := row_at hp1.tr (k := m) (by rw [List.length_map, tos_len]; exact hm1)
            obtain rfl := Option.some.inj e4
            have ep4 : p4 = ⟨P.go, m, none⟩ := hp4.symm.trans (add_none P.go m)
            subst ep4
            have HL4 := Lib.hid hl4
            have hgol : P.go < W.heap.size := hp4l
            have HGO : Hid (∀ Wx, Below W.heap.size W Wx → Wx.cell? ⟨P.go, m, none⟩ = some (.slice (P.At m) l4.length (P.ct m))) := Lib.hid fun Wx hx => (hx.cell (p := ⟨P.go, m, none⟩) hgol).trans ((he.b0.cell (p := ⟨P.go, m, none⟩) hgol).symm.trans g0)
            have HE := Lib.hid (he.alloc (.cells #[.int .i64 x2.ex.k, .int .i64 x2.ex.a, .int .i64 x2.ex.d, .int .i64 x2.ex.to, .int .i64 x2.ex.els] 50))
            have HB5 := hp1.tr.rd m l4 hl4
            have hl4m : ∃ l, (tos f.bl)[m]? = some l ∧ l4 = rise l := by
              have hlm : m < (tos f.bl).length := by rw [tos_len]; exact hm1
              refine ⟨_, List.getElem?_eq_getElem hlm, ?_⟩
              rw [List.getElem?_map, List.getElem?_eq_getElem hlm] at hl4
              exact (Option.some.inj hl4).symm
            obtain ⟨l0, hl0, rfl⟩ := hl4m
            have hl02 := tos_le f.bl l0 (List.mem_of_getElem? hl0)
            have hxd := HXD.out
            have HNW : Hid (∀ out', out' = wrB x2 out → Bw f.bl x.ex r (seen.set m true) out' (todo ++ rise l0)) := Lib.hid fun out' e' => by
              rw [e']
              exact HW.out.new HSM.out HX2.out HGOOD.out.closed hl0 (fun c => rise_mem) HOD.out (fun h4 => (HXD.out h4).2)
            obtain ⟨i0, hi, hz0, hz1, hz2⟩ := info_parts info3q
            have hrl : (rise l0).length ≤ 2 := by rw [rise_length]; exact hl02
            have hml : todo.length + (rise l0).length ≤ maxLen := by simp only [maxLen]; omega
            have hle : (todo.length + (rise l0).length) * 8 ≤ 140737488355328 := by omega
            have HONE : Hid (∀ u ∈ ints (rise l0), u.oneCell' = true) := Lib.hid (by intro u hu; obtain ⟨z, _, rfl⟩ := List.mem_map.1 hu; rfl)
            have HAPP : Hid (∀ Wa Wb out' v', EnvW W Wa W.heap.size (W.heap.size + 1) (seen.set m true) out' (.slice (some ⟨y, 0, none⟩) todo.length c9) todo → Wb.ownsRow W.heap.size 3 1 v' (todo.length + (rise l0).length) (ints todo ++ ints (rise l0)) → Wa.grownBy Wb (Value.slice (some ⟨y, 0, none⟩) todo.length c9).ownBlock → EnvW W Wb W.heap.size (W.heap.size + 1) (seen.set m true) out' v' (todo ++ rise l0)) := Lib.hid fun Wa Wb out' v' h1 h2 h3 => by
              refine h1.app ?_ h3
              rw [List.length_append, show ints (todo ++ rise l0) = ints todo ++ ints (rise l0) by simp [ints]]
              exact h2
            have hxb := heap_alloc_new wr (.cells #[.int .i64 x2.ex.k, .int .i64 x2.ex.a, .int .i64 x2.ex.d, .int .i64 x2.ex.to, .int .i64 x2.ex.els] 50)
            have x0 := Go.Joins.cell_of_block hxb 0
            have x1 := Go.Joins.cell_of_block hxb 2
            have HRD5 : Hid (∀ Wx, Below W.heap.size W Wx → Rd Wx W.heap.size (P.At m) (ints (rise l0))) := Lib.hid fun Wx hx => (HP.out.tr.rd m _ HL4.out).below hx
            by_cases hk4 : x2.ex.k = 4
            · obtain ⟨h0, hdr⟩ := hxd hk4
              obtain ⟨dd, hdd⟩ := Int.eq_ofNat_of_zero_le h0
              have HNE : Hid ((dmarks x2.ops out).set dd true = wrB x2 out) := Lib.hid (by unfold wrB; rw [if_pos hk4]; unfold dmark; rw [hdd, if_pos (by omega)]; simp)
              have HN2 := Lib.hid (HNW.out _ HNE.out)
              rw [hk4, hdd] at HE hxb x0 x1
              rw [hk4] at b1
              rw [hdd] at b3 hdr
              have HOO := Lib.hid he.o
              have hlo : (dmarks x2.ops out).length = r := by rw [dmarks_len, HW.out.olen]
              have hget : (dmarks x2.ops out)[dd]? = some ((dmarks x2.ops out)[dd]'(by omega)) := List.getElem?_eq_getElem (by omega)
              have hfd := HE.out.o.unfrozen dd
              have hcd := HE.out.o.cell hget
              have hfe := HOO.out.unfrozen dd
              have hce := HOO.out.cell hget
              have hob : W.heap.size + 1 ≠ wr.heap.size := by have := he.o.lt; omega
              have hpb2 : pb ≠ wr.heap.size := by have := he.b0.size; omega
              have hpb3 : pb ≠ W.heap.size + 1 := by omega
              have HES := Lib.hid (HE.out.setO dd)
              have HRD6 := Lib.hid (HRD5.out _ HES.out.b0)
              have y6 := (HP.out.below HES.out.b0).cells.2.2.2.1
              have y7 := HGO.out _ HES.out.b0
              clear hget he hp1 hl4 hx2' e2' HB5 hl0 hxd h0 hk4 hdd
              go_wp2_with (at_builtin; go_loud ((refine wpList_append_rd (w := (wr.alloc (.cells #[.int .i64 4, .int .i64 x2.ex.a, .int .i64 (dd : Int), .int .i64 x2.ex.to, .int .i64 x2.ex.els] 50)).setCell ⟨W.heap.size + 1, dd, none⟩ (.bool true)) rfl (.tmp 104) (.tmp 111) 27 rfl W.heap.size 3 i0 (.int .i64 0) 1 8 Tryz.underlying27 hi hz0 hz1 hz2 rfl (by omega) _ todo.length (ints todo) rfl HES.out.t _ (P.At m) (rise l0).length (P.ct m) (ints (rise l0)) rfl (by rw [ints_length, Nat.mul_one]) HRD6.out HONE.out hml hle HES.out.b0.size ?_); intro v6 w6 ho6 hg6 _; have e6 := HAPP.out _ _ _ _ HES.out ho6 hg6; obtain ⟨A6, c6, rfl, -, -⟩ := own_form ho6; have HE6 := Lib.hid e6; clear ho6 hg6 e6))
              go_roundg (3 * unseen (seen.set m true) + (todo ++ rise l0).length)
              case measure => rw [List.length_append]; omega
              case rel => exact ⟨seen.set m true, _, todo ++ rise l0, rfl, HE6.out, HN2.out, by rw [List.length_append]; omega⟩
            · have hk5 : (x2.ex.k == 4) = false := by simpa using hk4
              have HNE : Hid (dmarks x2.ops out = wrB x2 out) := Lib.hid (by unfold wrB; rw [if_neg hk4])
              have HN2 := Lib.hid (HNW.out _ HNE.out)
              have hpb2 : pb < wr.heap.size := by have := he.b0.size; omega
              have hpb3 : P.go < wr.heap.size := by have := he.b0.size; omega
              have y6 := (HP.out.below HE.out.b0).cells.2.2.2.1
              have y7 := HGO.out _ HE.out.b0
              have HRD6 := Lib.hid (HRD5.out _ HE.out.b0)
              clear he hp1 hl4 hx2' e2' HB5 hl0 hxd hk4
              go_wp2_with (at_builtin; go_loud ((refine wpList_append_rd (w := wr.alloc (.cells #[.int .i64 x2.ex.k, .int .i64 x2.ex.a, .int .i64 x2.ex.d, .int .i64 x2.ex.to, .int .i64 x2.ex.els] 50)) rfl (.tmp 104) (.tmp 111) 27 rfl W.heap.size 3 i0 (.int .i64 0) 1 8 Tryz.underlying27 hi hz0 hz1 hz2 rfl (by omega) _ todo.length (ints todo) rfl HE.out.t _ (P.At m) (rise l0).length (P.ct m) (ints (rise l0)) rfl (by rw [ints_length, Nat.mul_one]) HRD6.out HONE.out hml hle HE.out.b0.size ?_); intro v6 w6 ho6 hg6 _; have e6 := HAPP.out _ _ _ _ HE.out ho6 hg6; obtain ⟨A6, c6, rfl, -, -⟩ := own_form ho6; have HE6 := Lib.hid e6; clear ho6 hg6 e6))
              go_roundg (3 * unseen (seen.set m true) + (todo ++ rise l0).length)
              case measure => rw [List.length_append]; omega
              case rel => exact ⟨seen.set m true, _, todo ++ rise l0, rfl, HE6.out, HN2.out, by rw [List.length_append]; omega⟩
end Go.Proofs.YthgbmhpfblgjcaaGreatDoor.fl
