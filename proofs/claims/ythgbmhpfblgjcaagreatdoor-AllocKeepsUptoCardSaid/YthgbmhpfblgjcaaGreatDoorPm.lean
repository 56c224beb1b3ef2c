/-
  What a right function is like, plainly: its graph, its registers. No program's code in sight.
-/
import Derived.Test.YthgbmhpfblgjcaaGreatDoorExI
import Derived.Deep.OwnRows
import Derived.Deep.LoopGhost
import Derived.Test.YthgbmhpfblgjcaaGreatDoorExC
import Derived.Test.YthgbmhpfblgjcaaGreatDoorPk
set_option linter.unusedVariables false
set_option linter.unusedSimpArgs false
namespace Go.Proofs.YthgbmhpfblgjcaaGreatDoor.fl
open Go.RowKit Go.Shelf
open M T ty
set_option linter.unusedVariables false
/-- how often each of the first n numbers stands in a list -/
def cnt (l : List Int) (n : Nat) : List Int := (List.range n).map fun k : Nat => ((l.count (k : Int) : Nat) : Int)
theorem cnt_length (l : List Int) (n : Nat) : (cnt l n).length = n := by simp [cnt]
theorem cnt_get (l : List Int) (n k : Nat) (h : k < n) : (cnt l n)[k]? = some ((l.count (k : Int) : Nat) : Int) := by simp [cnt, List.getElem?_range h]
theorem cnt_snoc (l : List Int) (n j : Nat) (h : j < n) : cnt (l ++ [(j : Int)]) n = (cnt l n).set j (((l.count (j : Int) : Nat) : Int) + 1) := by
  apply List.ext_getElem?
  intro i
  rw [List.getElem?_set]
  by_cases hi : i < n
  · rw [cnt_get _ _ _ hi, cnt_get _ _ _ hi]
    by_cases hij : j = i
    · subst hij
      rw [if_pos rfl, if_pos (by rw [cnt_length]; exact hi), List.count_append]
      simp
    · rw [if_neg hij, List.count_append]
      have : [(j : Int)].count (i : Int) = 0 := by
        rw [List.count_eq_zero]
        simp
        omega
      rw [this]
      simp
  · rw [List.getElem?_eq_none (by rw [cnt_length]; omega)]
    split
    · omega
    · rw [List.getElem?_eq_none (by rw [cnt_length]; omega)]
theorem cnt_nil (n : Nat) : cnt [] n = List.replicate n 0 := by
  apply List.ext_getElem?
  intro i
  by_cases hi : i < n
  · rw [cnt_get _ _ _ hi, List.getElem?_replicate, if_pos hi]; simp
  · rw [List.getElem?_eq_none (by rw [cnt_length]; omega), List.getElem?_eq_none (by simp; omega)]
theorem heap_set {w : World} {p o : Nat} {cs : Array Value} {t : TypeId} (h : w.heap[p]? = some (.cells cs t (0, 0))) (u : Value) : (w.setCell ⟨p, o, none⟩ u).heap[p]? = some (.cells (cs.setIfInBounds o u) t (0, 0)) := by
  simp [World.setCell, Array.getElem?_modify, h]
theorem heap_other {W : World} {p q r : Nat} (v : Value) (hq : p ≠ q) : (W.setCell ⟨q, r, none⟩ v).heap[p]? = W.heap[p]? := Below.heap_setCell _ _ _ _ hq
/-- the variables of apart stand -/
structure EnvP (w W : World) (f : Fn) (L : FLay) (cs : List Int) : Prop where
  below : Below w.heap.size w W
  fn : FnAt W w.heap.size f L
  v : W.heap[w.heap.size]? = some (.cells #[.string f.name, .int .i64 f.params, .int .i64 f.regs, .slice L.SA f.slots.length L.sc, .slice L.BA f.bl.length L.bc] 25 (0, 0))
  led : LedAt W (w.heap.size + 1) (w.heap.size + 2) cs
section
variable {w W W' : World} {f : Fn} {L : FLay} {cs : List Int}
theorem EnvP.after (h : EnvP w W f L cs) (hb : Below W.heap.size W W') : EnvP w W' f L cs :=
  ⟨h.below.trans (hb.mono h.below.size), h.fn.below (hb.mono h.below.size), (hb.block _ (Array.getElem?_eq_some_iff.1 h.v).1).trans h.v, h.led.after hb⟩
theorem EnvP.cells (h : EnvP w W f L cs) : W.cell? ⟨w.heap.size, 0, none⟩ = some (.string f.name) ∧ W.cell? ⟨w.heap.size, 1, none⟩ = some (.int .i64 f.params) ∧ W.cell? ⟨w.heap.size, 2, none⟩ = some (.int .i64 f.regs) ∧ W.cell? ⟨w.heap.size, 3, none⟩ = some (.slice L.SA f.slots.length L.sc) ∧ W.cell? ⟨w.heap.size, 4, none⟩ = some (.slice L.BA f.bl.length L.bc) ∧
    W.cell? ⟨w.heap.size + 2, 0, none⟩ = some (.slice (some ⟨w.heap.size + 1, 0, none⟩) cs.length cs.length) :=
  ⟨Go.Joins.cell_of_block h.v 0, Go.Joins.cell_of_block h.v 1, Go.Joins.cell_of_block h.v 2, Go.Joins.cell_of_block h.v 3, Go.Joins.cell_of_block h.v 4, Go.Joins.cell_of_block h.led.var 0⟩
theorem EnvP.set (h : EnvP w W f L cs) {j : Nat} (hj : j < cs.length) (x : Int) : EnvP w (W.setCell ⟨w.heap.size + 1, j, none⟩ (.int .i64 x)) f L (cs.set j x) := by
  have hb : Below (w.heap.size + 1) W (W.setCell ⟨w.heap.size + 1, j, none⟩ (.int .i64 x)) := Below.setCell (p := ⟨w.heap.size + 1, j, none⟩) (Below.refl _ _) (Nat.le_refl _) _
  refine ⟨Below.setCell (p := ⟨w.heap.size + 1, j, none⟩) h.below (Nat.le_succ _) _, h.fn.below (hb.mono (by omega)), (heap_other _ (by omega)).trans h.v, ?_, ?_⟩
  · have := heap_set (o := j) h.led.row (.int .i64 x)
    rw [this]
    simp [ints, List.map_set]
  · rw [heap_other _ (by omega), h.led.var]
    simp
end
/-- numbers stand in block y -/
def RowK (W : World) (y : Nat) (l : List Int) : Prop := ∀ k x, l[k]? = some x → W.cell? ⟨y, k, none⟩ = some (.int .i64 x)
theorem RowK.other {W : World} {y q r : Nat} {l : List Int} (h : RowK W y l) (hq : y ≠ q) (v : Value) : RowK (W.setCell ⟨q, r, none⟩ v) y l := fun k x hx => by
  have e : (W.setCell ⟨q, r, none⟩ v).cell? ⟨y, k, none⟩ = W.cell? ⟨y, k, none⟩ := by
    unfold World.cell?
    simp only [heap_other (r := r) v hq]
  rw [e]
  exact h k x hx
theorem IntsAt.row {W : World} {B : Nat} {A : Option Addr} {c : Nat} {l : List Int} (h : W.ownsRow B 3 1 (.slice A l.length c) l.length (ints l)) : ∃ y, (0 < l.length → A = some ⟨y, 0, none⟩ ∧ B ≤ y) ∧ RowK W y l := by
  have h2 := h
  rcases h.2 with ⟨_, h0⟩ | ⟨y, cap, cur, hv, hb, hh, _⟩
  · exact ⟨0, fun hp => by omega, fun k x hx => by have := (List.getElem?_eq_some_iff.1 hx).1; omega⟩
  · injection hv with e1 _ _
    subst e1
    refine ⟨y, fun _ => ⟨rfl, hb⟩, fun k x hx => ?_⟩
    have hx2 : (ints l)[k]? = some (.int .i64 x) := by simp [ints, hx]
    have := h2.cells (g := y) rfl k _ hx2
    have e : Addr.add ⟨y, 0, none⟩ k = ⟨y, k, none⟩ := by unfold Addr.add; split <;> simp_all
    rwa [e] at this
theorem info3 : (Tryz.prog.info? 3).map (fun i => (i.zero, i.size, i.bytes)) = some (some (.int .i64 0), 1, 8) := by kernel_rfl
theorem made_zero (n : Nat) : madeCells #[Value.int .i64 0] n = (ints (List.replicate n 0)).toArray := by
  apply Array.ext
  · simp [madeCells, ints]
  · intro i h1 h2
    simp only [madeCells, Array.getElem_map, Array.getElem_range, List.getElem_toArray]
    simp [ints, Nat.mod_one]
/-- the blocks' exits lead to blocks that there are -/
def ToOk (f : Fn) : Prop := ∀ x ∈ f.bl, ∀ n ∈ exitTo x.ex, 0 ≤ n ∧ n < f.bl.length
theorem new_env (w : World) (f : Fn) (L : FLay) (h : FnAt w w.heap.size f L) : EnvP w (((w.alloc (.cells #[.string f.name, .int .i64 f.params, .int .i64 f.regs, .slice L.SA f.slots.length L.sc, .slice L.BA f.bl.length L.bc] 25)).alloc (.cells (madeCells #[Value.int .i64 0] f.bl.length) 3)).alloc (.cells #[.slice (some ⟨w.heap.size + 1, 0, none⟩) f.bl.length f.bl.length] 27)) f L (cnt [] f.bl.length) := by
  have e1 := heap_alloc_new w (.cells #[.string f.name, .int .i64 f.params, .int .i64 f.regs, .slice L.SA f.slots.length L.sc, .slice L.BA f.bl.length L.bc] 25)
  have e2 := heap_alloc_new (w.alloc (.cells #[.string f.name, .int .i64 f.params, .int .i64 f.regs, .slice L.SA f.slots.length L.sc, .slice L.BA f.bl.length L.bc] 25)) (.cells (madeCells #[Value.int .i64 0] f.bl.length) 3)
  generalize hO : Obj.cells #[.string f.name, .int .i64 f.params, .int .i64 f.regs, .slice L.SA f.slots.length L.sc, .slice L.BA f.bl.length L.bc] 25 = O1 at *
  have e3 := heap_alloc_new ((w.alloc O1).alloc (.cells (madeCells #[Value.int .i64 0] f.bl.length) 3)) (.cells #[.slice (some ⟨w.heap.size + 1, 0, none⟩) f.bl.length f.bl.length] 27)
  rw [made_zero] at e2
  rw [World.size_alloc] at e2
  rw [World.size_alloc, World.size_alloc] at e3
  have b2 : Below (w.heap.size + 1) (w.alloc O1) (((w.alloc O1).alloc (.cells (madeCells #[Value.int .i64 0] f.bl.length) 3)).alloc (.cells #[.slice (some ⟨w.heap.size + 1, 0, none⟩) f.bl.length f.bl.length] 27)) := ((Below.refl _ _).alloc (by simp) _).alloc (by simp) _
  have b3 : Below (w.heap.size + 1 + 1) ((w.alloc O1).alloc (.cells (madeCells #[Value.int .i64 0] f.bl.length) 3)) (((w.alloc O1).alloc (.cells (madeCells #[Value.int .i64 0] f.bl.length) 3)).alloc (.cells #[.slice (some ⟨w.heap.size + 1, 0, none⟩) f.bl.length f.bl.length] 27)) := (Below.refl _ _).alloc (by simp) _
  have hb : Below w.heap.size w (((w.alloc O1).alloc (.cells (madeCells #[Value.int .i64 0] f.bl.length) 3)).alloc (.cells #[.slice (some ⟨w.heap.size + 1, 0, none⟩) f.bl.length f.bl.length] 27)) := (((Below.refl _ _).alloc (Nat.le_refl _) _).alloc (by simp) _).alloc (by simp; omega) _
  rw [made_zero] at b2 b3 hb e3 ⊢
  refine ⟨hb, h.below hb, (b2.block _ (by omega)).trans (by rw [hO]; exact e1), ?_, ?_⟩
  · rw [cnt_nil]
    exact (b3.block _ (by omega)).trans e2
  · rw [cnt_length]
    exact e3
theorem targets_snoc (l : List Bl) (i : Nat) (x : Bl) (h : l[i]? = some x) : (l.take (i + 1)).flatMap (fun x => exitTo x.ex) = (l.take i).flatMap (fun x => exitTo x.ex) ++ exitTo x.ex := by
  rw [List.take_add_one, h]
  simp
theorem targets_len (l : List Bl) : (l.flatMap fun x => exitTo x.ex).length ≤ 2 * l.length := by
  induction l with
  | nil => simp
  | cons x r ih =>
    have : (exitTo x.ex).length ≤ 2 := by unfold exitTo; split <;> (try split) <;> simp
    simp only [List.flatMap_cons, List.length_append, List.length_cons]
    omega
theorem any_congr {α : Type} : ∀ (l : List α) (p q : α → Bool), (∀ x ∈ l, p x = q x) → l.any p = l.any q
  | [], _, _, _ => rfl
  | x :: l, p, q, h => by rw [List.any_cons, List.any_cons, h x (List.mem_cons_self ..), any_congr l p q (fun y hy => h y (List.mem_cons_of_mem _ hy))]
theorem over_apart (bl : List Bl) (h : ∀ x ∈ bl, x.ex.k = 4 → 0 ≤ x.ex.els ∧ x.ex.els < bl.length) : (!bl.any (overB (cnt (bl.flatMap fun x => exitTo x.ex) bl.length))) = apartB bl := by
  unfold apartB
  rw [List.all_eq_not_any_not]
  congr 1
  refine any_congr _ _ _ fun x hx => ?_
  unfold overB ledTo
  rw [Bool.not_not]
  by_cases hk : x.ex.k = 4
  · obtain ⟨h0, h1⟩ := h x hx hk
    rw [cnt_get _ _ _ (by omega), Option.getD_some, show ((x.ex.els.toNat : Nat) : Int) = x.ex.els by omega]
    congr 1
    rw [Bool.eq_iff_iff, decide_eq_true_iff, decide_eq_true_iff]
    omega
  · rw [decide_eq_false hk]; rfl
set_option maxRecDepth 20000 in
set_option maxHeartbeats 8000000 in
theorem apart_125 (f : Fn) (L : FLay) (w : World) (h : FnAt w w.heap.size f L) (hn : f.bl.length ≤ 4096) (hto : ToOk f) :
    Calls Tryz.prog 125 #[fnV f L] w fun e w' => e = .returned (.bool (apartB f.bl)) ∧ Below w.heap.size w w' := by
  have hels : ∀ x ∈ f.bl, x.ex.k = 4 → 0 ≤ x.ex.els ∧ x.ex.els < f.bl.length := fun x hx hk => hto x hx _ (by simp [exitTo, hk])
  rw [← over_apart f.bl hels]
  have HE := Lib.hid (new_env w f L h)
  have hmk := run_make_row' (P := Tryz.prog) 27 3 (.int .i64 0) 8 Tryz.underlying27 info3 rfl .i64 .i64 f.bl.length (by omega) (by omega)
  have HT := Lib.hid hto
  have HEL := Lib.hid hels
  clear h hto hels
  have hnn : (f.bl.length : Int) ≤ 4096 := by omega
  obtain ⟨SA, sc, BA, bc, OA, oc, AA, ac⟩ := L
  unfold fnV
  simp only
  go_enter Tryz.func125, Tryz.ntmps125
  go_wp2_with fail
  go_loopg [17] f.bl.length (fun N t wr => ∃ i : Nat, i ≤ f.bl.length ∧ N = f.bl.length - i ∧ t = .int .i64 i ∧ EnvP w wr f ⟨SA, sc, BA, bc, OA, oc, AA, ac⟩ (cnt ((f.bl.take i).flatMap fun x => exitTo x.ex) f.bl.length))
  case atStart => exact ⟨0, by omega, rfl, rfl, by rw [List.take_zero]; exact HE.out⟩
  case round =>
    obtain ⟨i, hi, rfl, rfl, he⟩ := hrel
    have H := Lib.hid he
    clear HE
    by_cases hlt : i < f.bl.length
    · have hltI : (i : Int) < (f.bl.length : Int) := by omega
      have hbl : BlsAt wr w.heap.size BA f.bl OA oc AA ac := he.fn.bls
      obtain ⟨ad, p, x, rfl, hx, hp, -, a0, a1, a2, a3, a4, a5⟩ := bl_at hbl hlt
      have hxm := List.mem_of_getElem? hx
      have HX := Lib.hid (fun W => exits_91 x.ex W)
      unfold exV at HX
      have HLT := Lib.hid (fun n hn => HT.out x hxm n hn)
      have HSN := Lib.hid (targets_snoc f.bl i x hx)
      have HLN : Hid (((f.bl.take i).flatMap fun x => exitTo x.ex).length + (exitTo x.ex).length ≤ 8192) := Lib.hid (by
        have h1 := targets_len (f.bl.take (i + 1))
        rw [HSN.out, List.length_append, List.length_take] at h1
        omega)
      clear hbl he hx hxm
      generalize (f.bl.take i).flatMap (fun x => exitTo x.ex) = T at *
      have hal := (Below.refl wr.heap.size wr).alloc (Nat.le_refl _) (.cells #[.slice (OA i) x.ops.length (oc i), .int .i64 x.ex.k, .int .i64 x.ex.a, .int .i64 x.ex.d, .int .i64 x.ex.to, .int .i64 x.ex.els] 52)
      have HA := Lib.hid hal
      clear hal
      go_wp2_with (go_at_call 91; refine (HX.out _).mono ?_; rintro e w2 ⟨v, u, rfl, hv, hu, hb2⟩; obtain ⟨A', c', rfl, ho⟩ := hu; obtain ⟨y, hy, hrow⟩ := IntsAt.row ho; have h2 := (H.out.after HA.out).after hb2; have hsz : w.heap.size + 3 ≤ wr.heap.size := (by have := (Array.getElem?_eq_some_iff.1 H.out.led.var).1; omega); have HY := Lib.hid hy; have HR := Lib.hid hrow; have H2 := Lib.hid h2; have HSZ := Lib.hid hsz; clear hv ho hy hrow h2 hsz hb2)
      generalize exitTo x.ex = l at *
      go_loopg [29] l.length (fun N t wr2 => ∃ j : Nat, j ≤ l.length ∧ N = l.length - j ∧ t = .int .i64 j ∧ EnvP w wr2 f ⟨SA, sc, some ad, bc, OA, oc, AA, ac⟩ (cnt (T ++ l.take j) f.bl.length) ∧ RowK wr2 y l)
      case atStart => exact ⟨0, by omega, rfl, rfl, by rw [List.take_zero, List.append_nil]; exact H2.out, HR.out⟩
      case round =>
        obtain ⟨j, hj, rfl, rfl, he2, hr2⟩ := hrel
        by_cases hlj : j < l.length
        · have hljI : (j : Int) < (l.length : Int) := by omega
          obtain ⟨rfl, hyB⟩ := HY.out (by omega)
          have hm : l[j]? = some l[j] := List.getElem?_eq_getElem hlj
          obtain ⟨m0, m1⟩ := HLT.out _ (List.getElem_mem hlj)
          have hc := hr2 j _ hm
          have HTK : Hid (T ++ l.take (j + 1) = (T ++ l.take j) ++ [l[j]]) := Lib.hid (by rw [List.take_add_one, hm, List.append_assoc]; rfl)
          obtain ⟨m, hmm⟩ := Int.eq_ofNat_of_zero_le m0
          rw [hmm] at hc m1 HTK
          have hmn : m < f.bl.length := by omega
          have hmI : (m : Int) < (f.bl.length : Int) := m1
          have hled := he2.led.cell (cnt_get (T ++ l.take j) f.bl.length m hmn)
          have hfr := Go.Joins.unfrozen_of_block he2.led.row m
          obtain ⟨-, -, -, -, -, d5⟩ := he2.cells
          rw [cnt_length] at d5
          have hcb : (((T ++ l.take j).count (m : Int) : Nat) : Int) ≤ 8192 := by
            have h1 := List.count_le_length (a := (m : Int)) (l := T ++ l.take j)
            rw [List.length_append, List.length_take] at h1
            have := HLN.out
            omega
          have hc0 : (0 : Int) ≤ (((T ++ l.take j).count (m : Int) : Nat) : Int) := Int.natCast_nonneg _
          have hset := he2.set (j := m) (by rw [cnt_length]; exact hmn) ((((T ++ l.take j).count (m : Int) : Nat) : Int) + 1)
          rw [← cnt_snoc _ _ _ hmn, ← HTK.out] at hset
          have HS := Lib.hid hset
          have hrn := hr2.other (q := w.heap.size + 1) (r := m) (by have := HSZ.out; simp at hyB; omega) (.int .i64 ((((T ++ l.take j).count (m : Int) : Nat) : Int) + 1))
          have HRN := Lib.hid hrn
          clear hset hrn he2 hr2 hm hmm m0 m1 hyB
          generalize (((T ++ l.take j).count (m : Int) : Nat) : Int) = v at *
          go_wp2_with fail
          go_roundg (l.length - (j + 1))
          case measure => omega
          case rel => exact ⟨j + 1, by omega, rfl, by have h8 := HLN.out; rw [IntWalk.wrap64_in _ (by omega)]; rfl, HS.out, HRN.out⟩
        · obtain rfl : j = l.length := by omega
          rw [List.take_length] at he2
          have HE2 := Lib.hid he2
          clear he2 hr2
          go_wp2_with fail
          go_roundg (f.bl.length - (i + 1))
          case measure => omega
          case rel => exact ⟨i + 1, by omega, rfl, by go_num, by rw [HSN.out]; exact HE2.out⟩
    · obtain rfl : i = f.bl.length := by omega
      rw [List.take_length] at he
      obtain ⟨d0, d1, d2, d3, d4, d5⟩ := he.cells
      have HC := Lib.hid (contains_146 BA f.bl.length bc (w.heap.size + 1) (w.heap.size + 2) _ f.bl OA oc AA ac wr rfl (by simp only [maxLen]; omega) (he.fn.bls.keep (fun _ _ => rfl) he.below.size) he.led (by rw [cnt_length]; exact HEL.out))
      have HB := Lib.hid he.below
      clear he H
      go_wp2_with (go_at_call 146; refine HC.out.mono ?_; rintro e w2 ⟨rfl, hb⟩)
      go_ret
      exact ⟨rfl, HB.out.trans (hb.mono HB.out.size)⟩
end Go.Proofs.YthgbmhpfblgjcaaGreatDoor.fl
namespace Go.Proofs.YthgbmhpfblgjcaaGreatDoor.fl
open Go.RowKit Go.Shelf
open M T ty
set_option linter.unusedVariables false
/-- is a block right? -/
def blB (f : Fn) (st : Int) (x : Bl) : Bool := exitB f.regs x.ex f.bl.length && x.ops.all (opB f.regs f.slots.length st)
def opsSum (l : List Bl) : Nat := (l.map fun x => x.ops.length).sum
/-- the head of a function is right -/
def headB (f : Fn) : Bool := nameB (nums f.name) && (decide (0 ≤ f.params) && (decide (f.params ≤ 8) && (decide (f.params ≤ f.regs) && (decide (f.regs ≤ 4096) && (decide (f.slots.length ≤ 256) && (decide (1 ≤ f.bl.length) && decide (f.bl.length ≤ 4096)))))))
/-- is a function right? -/
def fnB (st : Int) (f : Fn) : Bool := headB f && (f.slots.all slotB && ((f.bl.all (blB f st) && decide (opsSum f.bl ≤ 4096)) && apartB f.bl))
theorem exit_to {R : Int} {x : Ex} {nb : Int} (h : exitB R x nb = true) : ∀ n ∈ exitTo x, 0 ≤ n ∧ n < nb := by
  intro n hn
  unfold exitTo at hn
  unfold exitB toB at h
  by_cases h1 : x.k = 1
  · simp [h1] at h hn
    subst hn
    omega
  · by_cases h2 : x.k = 2
    · simp [h2] at h hn
      rcases hn with rfl | rfl <;> omega
    · by_cases h4 : x.k = 4
      · simp [h4] at h hn
        rcases hn with rfl | rfl <;> omega
      · simp [h1, h2, h4] at hn
/-- the variables of function stand -/
structure EnvF (w W : World) (f : Fn) (L : FLay) : Prop where
  below : Below w.heap.size w W
  fn : FnAt W w.heap.size f L
  v : W.heap[w.heap.size]? = some (.cells #[.string f.name, .int .i64 f.params, .int .i64 f.regs, .slice L.SA f.slots.length L.sc, .slice L.BA f.bl.length L.bc] 25 (0, 0))
  keys : KeysIn W
section
variable {w W W' : World} {f : Fn} {L : FLay}
theorem EnvF.after (h : EnvF w W f L) (hb : Below W.heap.size W W') : EnvF w W' f L :=
  ⟨h.below.trans (hb.mono h.below.size), h.fn.below (hb.mono h.below.size), (hb.block _ (Array.getElem?_eq_some_iff.1 h.v).1).trans h.v, h.keys.below hb⟩
theorem EnvF.alloc (h : EnvF w W f L) (o : Obj) : EnvF w (W.alloc o) f L := h.after ((Below.refl _ _).alloc (Nat.le_refl _) _)
theorem EnvF.new (w : World) (f : Fn) (L : FLay) (h : FnAt w w.heap.size f L) (hK : KeysIn w) : EnvF w (w.alloc (.cells #[.string f.name, .int .i64 f.params, .int .i64 f.regs, .slice L.SA f.slots.length L.sc, .slice L.BA f.bl.length L.bc] 25)) f L := by
  have hb := (Below.refl w.heap.size w).alloc (Nat.le_refl _) (.cells #[.string f.name, .int .i64 f.params, .int .i64 f.regs, .slice L.SA f.slots.length L.sc, .slice L.BA f.bl.length L.bc] 25)
  exact ⟨hb, h.below hb, heap_alloc_new w _, hK.below hb⟩
theorem EnvF.cells (h : EnvF w W f L) : W.cell? ⟨w.heap.size, 0, none⟩ = some (.string f.name) ∧ W.cell? ⟨w.heap.size, 1, none⟩ = some (.int .i64 f.params) ∧ W.cell? ⟨w.heap.size, 2, none⟩ = some (.int .i64 f.regs) ∧ W.cell? ⟨w.heap.size, 3, none⟩ = some (.slice L.SA f.slots.length L.sc) ∧ W.cell? ⟨w.heap.size, 4, none⟩ = some (.slice L.BA f.bl.length L.bc) :=
  ⟨Go.Joins.cell_of_block h.v 0, Go.Joins.cell_of_block h.v 1, Go.Joins.cell_of_block h.v 2, Go.Joins.cell_of_block h.v 3, Go.Joins.cell_of_block h.v 4⟩
end
def NameF (w : World) (f : Fn) (L : FLay) (b : Bool) : Prop := ∀ W, EnvF w W f L → Calls Tryz.prog 121 #[.string f.name] W fun e w' => e = .returned (.bool b) ∧ EnvF w w' f L
set_option maxRecDepth 20000 in
set_option maxHeartbeats 8000000 in
theorem fn_head (st : Int) (f : Fn) (L : FLay) (w : World) (HE : Hid (EnvF w (w.alloc (.cells #[.string f.name, .int .i64 f.params, .int .i64 f.regs, .slice L.SA f.slots.length L.sc, .slice L.BA f.bl.length L.bc] 25)) f L)) (HN : Hid (NameF w f L (nameB (nums f.name)))) (hh : headB f = false) :
    Calls Tryz.prog 94 #[fnV f L, .int .i64 st] w fun e w' => e = .returned (.bool false) ∧ Below w.heap.size w w' := by
  unfold fnV
  unfold headB at hh
  cases hname : nameB (nums f.name) with
  | false =>
    rw [hname] at HN
    clear hh hname
    go_enter Tryz.func94, Tryz.ntmps94
    go_wp2_with (go_at_call 121; refine (HN.out _ HE.out).mono ?_; rintro e w1 ⟨rfl, h1⟩; (try clear c0 c1 c2 c3 c4); obtain ⟨c0, c1, c2, c3, c4⟩ := h1.cells; (try clear H); have H := Lib.hid h1; clear h1)
    go_ret
    exact ⟨rfl, H.out.below⟩
  | true =>
    rw [hname] at HN hh
    rw [Bool.true_and] at hh
    clear hname
    by_cases hp : 0 ≤ f.params
    case neg =>
      have qhp : f.params < 0 := by omega
      clear hh hp
      go_enter Tryz.func94, Tryz.ntmps94
      go_wp2_with (go_at_call 121; refine (HN.out _ HE.out).mono ?_; rintro e w1 ⟨rfl, h1⟩; (try clear c0 c1 c2 c3 c4); obtain ⟨c0, c1, c2, c3, c4⟩ := h1.cells; (try clear H); have H := Lib.hid h1; clear h1)
      go_ret
      exact ⟨rfl, H.out.below⟩
    rw [decide_eq_true hp, Bool.true_and] at hh
    have qhp : ¬ f.params < 0 := by omega
    clear hp
    by_cases h8 : f.params ≤ 8
    case neg =>
      have qh8 : 8 < f.params := by omega
      clear hh h8
      go_enter Tryz.func94, Tryz.ntmps94
      go_wp2_with (go_at_call 121; refine (HN.out _ HE.out).mono ?_; rintro e w1 ⟨rfl, h1⟩; (try clear c0 c1 c2 c3 c4); obtain ⟨c0, c1, c2, c3, c4⟩ := h1.cells; (try clear H); have H := Lib.hid h1; clear h1)
      go_ret
      exact ⟨rfl, H.out.below⟩
    rw [decide_eq_true h8, Bool.true_and] at hh
    have qh8 : ¬ 8 < f.params := by omega
    clear h8
    by_cases hr : f.params ≤ f.regs
    case neg =>
      have qhr : f.regs < f.params := by omega
      clear hh hr
      go_enter Tryz.func94, Tryz.ntmps94
      go_wp2_with (go_at_call 121; refine (HN.out _ HE.out).mono ?_; rintro e w1 ⟨rfl, h1⟩; (try clear c0 c1 c2 c3 c4); obtain ⟨c0, c1, c2, c3, c4⟩ := h1.cells; (try clear H); have H := Lib.hid h1; clear h1)
      go_ret
      exact ⟨rfl, H.out.below⟩
    rw [decide_eq_true hr, Bool.true_and] at hh
    have qhr : ¬ f.regs < f.params := by omega
    clear hr
    by_cases h4 : f.regs ≤ 4096
    case neg =>
      have qh4 : 4096 < f.regs := by omega
      clear hh h4
      go_enter Tryz.func94, Tryz.ntmps94
      go_wp2_with (go_at_call 121; refine (HN.out _ HE.out).mono ?_; rintro e w1 ⟨rfl, h1⟩; (try clear c0 c1 c2 c3 c4); obtain ⟨c0, c1, c2, c3, c4⟩ := h1.cells; (try clear H); have H := Lib.hid h1; clear h1)
      go_ret
      exact ⟨rfl, H.out.below⟩
    rw [decide_eq_true h4, Bool.true_and] at hh
    have qh4 : ¬ 4096 < f.regs := by omega
    clear h4
    by_cases hs : f.slots.length ≤ 256
    case neg =>
      have qhs : (256 : Int) < (f.slots.length : Int) := by omega
      clear hh hs
      go_enter Tryz.func94, Tryz.ntmps94
      go_wp2_with (go_at_call 121; refine (HN.out _ HE.out).mono ?_; rintro e w1 ⟨rfl, h1⟩; (try clear c0 c1 c2 c3 c4); obtain ⟨c0, c1, c2, c3, c4⟩ := h1.cells; (try clear H); have H := Lib.hid h1; clear h1)
      go_ret
      exact ⟨rfl, H.out.below⟩
    rw [decide_eq_true hs, Bool.true_and] at hh
    have qhs : ¬ (256 : Int) < (f.slots.length : Int) := by omega
    clear hs
    by_cases h1 : 1 ≤ f.bl.length
    case neg =>
      have qh1 : (f.bl.length : Int) < 1 := by omega
      clear hh h1
      go_enter Tryz.func94, Tryz.ntmps94
      go_wp2_with (go_at_call 121; refine (HN.out _ HE.out).mono ?_; rintro e w1 ⟨rfl, h1⟩; (try clear c0 c1 c2 c3 c4); obtain ⟨c0, c1, c2, c3, c4⟩ := h1.cells; (try clear H); have H := Lib.hid h1; clear h1)
      go_ret
      exact ⟨rfl, H.out.below⟩
    rw [decide_eq_true h1, Bool.true_and] at hh
    have qh1 : ¬ (f.bl.length : Int) < 1 := by omega
    clear h1
    by_cases hb : f.bl.length ≤ 4096
    case neg =>
      have qhb : (4096 : Int) < (f.bl.length : Int) := by omega
      clear hh hb
      go_enter Tryz.func94, Tryz.ntmps94
      go_wp2_with (go_at_call 121; refine (HN.out _ HE.out).mono ?_; rintro e w1 ⟨rfl, h1⟩; (try clear c0 c1 c2 c3 c4); obtain ⟨c0, c1, c2, c3, c4⟩ := h1.cells; (try clear H); have H := Lib.hid h1; clear h1)
      go_ret
      exact ⟨rfl, H.out.below⟩
    exact absurd (decide_eq_true hb) (by rw [hh]; decide)
end Go.Proofs.YthgbmhpfblgjcaaGreatDoor.fl
namespace Go.Proofs.YthgbmhpfblgjcaaGreatDoor.fl
open Go.RowKit Go.Shelf
open M T ty
set_option linter.unusedVariables false
structure Good (st : Int) (f : Fn) : Prop where
  p0 : 0 ≤ f.params
  p8 : f.params ≤ 8
  pr : f.params ≤ f.regs
  r : f.regs ≤ 4096
  sl : f.slots.length ≤ 256
  b1 : 1 ≤ f.bl.length
  b4 : f.bl.length ≤ 4096
  sum : opsSum f.bl ≤ 4096
  ex : ∀ x ∈ f.bl, exitB f.regs x.ex f.bl.length = true
  op : ∀ x ∈ f.bl, ∀ o ∈ x.ops, opB f.regs f.slots.length st o = true
theorem good_of {st : Int} {f : Fn} (h : fnB st f = true) : Good st f := by
  unfold fnB headB at h
  simp only [Bool.and_eq_true, decide_eq_true_eq, List.all_eq_true] at h
  obtain ⟨⟨_, a1, a2, a3, a4, a5, a6, a7⟩, _, ⟨b1, b2⟩, _⟩ := h
  refine ⟨a1, a2, a3, a4, a5, a6, a7, b2, fun x hx => ?_, fun x hx o ho => ?_⟩
  · have := b1 x hx
    unfold blB at this
    simp only [Bool.and_eq_true] at this
    exact this.1
  · have := b1 x hx
    unfold blB at this
    simp only [Bool.and_eq_true, List.all_eq_true] at this
    exact this.2 o ho
theorem ops_le {f : Fn} {x : Bl} (h : opsSum f.bl ≤ 4096) (hx : x ∈ f.bl) : x.ops.length ≤ 4096 := by
  unfold opsSum at h
  have : x.ops.length ≤ (f.bl.map fun x => x.ops.length).sum := by
    generalize f.bl = l at *
    induction l with
    | nil => cases hx
    | cons y l ih =>
      rw [List.map_cons, List.sum_cons] at h ⊢
      rcases List.mem_cons.1 hx with rfl | h'
      · omega
      · have := ih (by omega) h'
        omega
  omega
theorem once_len (l : List Int) : ∀ acc : List Int, (l.foldl (fun acc k => if k ∈ acc then acc else acc ++ [k]) acc).length ≤ acc.length + l.length := by
  induction l with
  | nil => simp
  | cons x r ih =>
    intro acc
    rw [List.foldl_cons]
    refine Nat.le_trans (ih _) ?_
    split
    · simp
    · simp; omega
theorem exitTo_len (x : Ex) : (exitTo x).length ≤ 2 := by unfold exitTo; split <;> (try split) <;> simp
theorem once_le (x : Ex) : (once (exitTo x)).length ≤ 2 := by
  have := once_len (exitTo x) []
  have := exitTo_len x
  unfold once
  simp at *
  omega
theorem tos_len (bl : List Bl) : (tos bl).length = bl.length := by simp [tos]
theorem tos_get {bl : List Bl} {k : Nat} {x : Bl} (h : bl[k]? = some x) : (tos bl)[k]? = some (once (exitTo x.ex)) := by simp [tos, h]
theorem tos_le (bl : List Bl) : ∀ l ∈ tos bl, l.length ≤ 2 := fun l hl => by
  obtain ⟨x, _, rfl⟩ := List.mem_map.1 hl
  exact once_le _
section
variable {st : Int} {f : Fn}
theorem Good.to (h : Good st f) : ∀ x ∈ f.bl, ∀ n ∈ exitTo x.ex, 0 ≤ n ∧ n < f.bl.length := fun x hx n hn => exit_to (h.ex x hx) n hn
theorem Good.closed (h : Good st f) : Closed (tos f.bl) := fun l hl c hc => by
  obtain ⟨x, hx, rfl⟩ := List.mem_map.1 hl
  rw [tos_len]
  exact h.to x hx c (mem_once.1 hc)
theorem reg_bd {R r : Int} {u m : Bool} (h : regB R r u m = true) (h0 : 0 ≤ r) : r < R := by
  unfold regB at h
  split at h
  · omega
  · simp only [Bool.and_eq_true, decide_eq_true_eq] at h
    exact h.2.2
theorem reg_lt {R r : Int} {u m : Bool} (h : regB R r u m = true) (hR : 0 ≤ R) : r < R := by
  unfold regB at h
  split at h
  · omega
  · simp only [Bool.and_eq_true, decide_eq_true_eq] at h
    exact h.2.2
theorem reg_ge {R r : Int} {u m : Bool} (h : regB R r u m = true) : -1 ≤ r := by
  unfold regB at h
  split at h
  · omega
  · simp only [Bool.and_eq_true, decide_eq_true_eq] at h
    omega
structure OpIn (R : Int) (o : Op) : Prop where
  d0 : -1 ≤ o.d
  d : o.d < R
  reads : ∀ n ∈ readsOp o, 0 ≤ n ∧ n < R
  args : o.args.length ≤ o.args.length
theorem op_in {R sl st : Int} {o : Op} (h : opB R sl st o = true) (hR : 0 ≤ R) : OpIn R o := by
  unfold opB at h
  cases hr : ruleP o.k with
  | none => rw [hr] at h; cases h
  | some r =>
    rw [hr] at h
    simp only [Bool.and_eq_true, List.all_eq_true] at h
    obtain ⟨h1, h2, h3, h4, h5, h6, h7, h8⟩ := h
    refine ⟨reg_ge h1, reg_lt h1 hR, fun n hn => ?_, Nat.le_refl _⟩
    unfold readsOp at hn
    rw [List.mem_filter, decide_eq_true_eq] at hn
    refine ⟨hn.2, ?_⟩
    rcases List.mem_cons.1 hn.1 with rfl | hn1
    · exact reg_bd h2 hn.2
    · rcases List.mem_cons.1 hn1 with rfl | hn2
      · exact reg_bd h3 hn.2
      · exact reg_bd (h7 _ hn2) hn.2
theorem exit_regs {R : Int} {x : Ex} {nb : Int} (h : exitB R x nb = true) : ∀ n ∈ exitRegs x, 0 ≤ n ∧ n < R := by
  intro n hn
  unfold exitRegs at hn
  unfold exitB at h
  have key : ∀ {u m : Bool}, regB R x.a u m = true → (m = false ∨ 0 ≤ x.a) → u = true → 0 ≤ x.a ∧ x.a < R := fun {u m} hr hm hu => by
    unfold regB at hr
    subst hu
    split at hr
    · rename_i e
      rcases hm with rfl | hm
      · simp at hr
      · omega
    · simp only [Bool.and_eq_true, decide_eq_true_eq] at hr
      exact hr.2
  by_cases h2 : x.k = 2
  · simp [h2] at h hn
    subst hn
    exact key h.1 (.inl rfl) rfl
  · by_cases h4 : x.k = 4
    · simp [h4] at h hn
      subst hn
      exact key h.1 (.inl rfl) rfl
    · by_cases h3 : x.k = 3
      · simp [h3] at h hn
        obtain ⟨h0, rfl⟩ := hn
        exact key h.1 (.inr h0) rfl
      · simp [h2, h3, h4] at hn
/-- a set's D and targets -/
theorem exit_set {R : Int} {x : Ex} {nb : Int} (h : exitB R x nb = true) (h4 : x.k = 4) : 0 ≤ x.d ∧ x.d < R ∧ 1 ≤ x.to ∧ x.to < nb ∧ 1 ≤ x.els ∧ x.els < nb ∧ x.to ≠ x.els := by
  unfold exitB toB at h
  simp [h4] at h
  obtain ⟨-, hd, h3, h5, h6⟩ := h
  unfold regB at hd
  split at hd
  · simp at hd
  · simp only [Bool.and_eq_true, decide_eq_true_eq] at hd
    exact ⟨hd.2.1, hd.2.2, h3.1, h3.2, h5.1, h5.2, h6⟩
theorem exit_d {R : Int} {x : Ex} {nb : Int} (h : exitB R x nb = true) (hR : 0 ≤ R) : x.d < R := by
  unfold exitB at h
  by_cases h1 : x.k = 1
  · simp [h1] at h; omega
  · by_cases h2 : x.k = 2
    · simp [h2] at h; omega
    · by_cases h3 : x.k = 3
      · simp [h3] at h; omega
      · by_cases h4 : x.k = 4
        · simp [h4] at h; exact reg_lt h.2.1 hR
        · simp [h1, h2, h3, h4] at h
theorem Good.r0 (h : Good st f) : 0 ≤ f.regs := Int.le_trans h.p0 h.pr
theorem Good.blOk (h : Good st f) : ∀ x ∈ f.bl, BlOk f.regs.toNat x := fun x hx => by
  have e : ((f.regs.toNat : Nat) : Int) = f.regs := Int.toNat_of_nonneg h.r0
  refine ⟨fun n hn => by rw [e]; exact exit_regs (h.ex x hx) n hn, by rw [e]; exact exit_d (h.ex x hx) h.r0, fun o ho => by rw [e]; exact (op_in (h.op x hx o ho) h.r0).d, fun o ho n hn => by rw [e]; exact (op_in (h.op x hx o ho) h.r0).reads n hn⟩
end
end Go.Proofs.YthgbmhpfblgjcaaGreatDoor.fl
