/-
  Words for a function's copy in memory; the contract of Ints of the laws' base. Condition: what is read stands in memory.
-/
import Derived.Test.YthgbmhpfblgjcaaGreatDoorAlC
set_option linter.unusedVariables false
set_option linter.unusedSimpArgs false
namespace Go.Proofs.YthgbmhpfblgjcaaGreatDoor.fl
open Go.RowKit Go.Shelf
open M T ty
set_option linter.unusedVariables false
theorem flat_get {α β : Type} (g : α → List β) (n : Nat) (hg : ∀ a, (g a).length = n) : ∀ (l : List α) (j r : Nat), r < n → (l.flatMap g)[j * n + r]? = (l[j]?).bind fun a => (g a)[r]?
  | [], j, r, _ => by simp
  | a :: l, 0, r, hr => by
    rw [List.flatMap_cons, Nat.zero_mul, Nat.zero_add, List.getElem?_append_left (by rw [hg]; exact hr)]
    rfl
  | a :: l, j + 1, r, hr => by
    have e1 : (j + 1) * n + r = n + (j * n + r) := by rw [Nat.add_mul]; omega
    rw [List.flatMap_cons, e1, List.getElem?_append_right (by rw [hg]; omega), hg, Nat.add_sub_cancel_left, flat_get g n hg l j r hr]
    rfl
theorem flat_len {α β : Type} (g : α → List β) (n : Nat) (hg : ∀ a, (g a).length = n) : ∀ l : List α, (l.flatMap g).length = l.length * n
  | [] => by simp
  | a :: l => by rw [List.flatMap_cons, List.length_append, flat_len g n hg l, hg, List.length_cons, Nat.add_mul]; omega
/-- cells that stand in a block of a type -/
def RdG (W : World) (E : TypeId) (A : Option Addr) (xs : List Value) : Prop := RdP W (fun g => ∃ cs, W.heap[g]? = some (Obj.cells cs E (0, 0))) A xs
theorem RdG.keep {W W' : World} {E : TypeId} {A : Option Addr} {xs : List Value} (h : RdG W E A xs) (hk : ∀ (g : Nat) (cs : Array Value), W.heap[g]? = some (Obj.cells cs E (0, 0)) → W'.heap[g]? = W.heap[g]?) : RdG W' E A xs :=
  RdP.keep h fun g ⟨cs, hg⟩ => ⟨⟨cs, (hk g cs hg).trans hg⟩, hk g cs hg⟩
theorem RdG.rd {W : World} {E : TypeId} {A : Option Addr} {xs : List Value} (h : RdG W E A xs) : Rd W W.heap.size A xs := RdP.rd h fun g ⟨cs, hg⟩ => (Array.getElem?_eq_some_iff.1 hg).1
theorem RdG.of_own {W : World} {base size n c : Nat} {E : TypeId} {A : Option Addr} {xs : List Value} (h : W.ownsRow base E size (.slice A n c) n xs) : RdG W E A xs := fun hn => by
  obtain ⟨ad, e, hb, hc⟩ := rdp_own_any h hn
  rcases h.2 with ⟨e', -⟩ | ⟨g, cap, cur, e', -, hg, -⟩
  · injection e' with e1
    rw [e] at e1
    cases e1
  · injection e' with e1
    rw [e] at e1
    cases e1
    exact ⟨_, e, ⟨cur, hg⟩, hc⟩
/-- operations, their values -/
structure OpsX (W : World) (ys : List Value) (l : List Op) : Prop where
  len : ys.length = l.length * 7
  get : ∀ (j : Nat) (o : Op), l[j]? = some o → ∃ A c, (∀ (r : Nat) v, (opCells o A c)[r]? = some v → ys[j * 7 + r]? = some v) ∧ RdT W A o.args
/-- blocks, their values -/
structure BlsX (W : World) (xs : List Value) (l : List Bl) : Prop where
  len : xs.length = l.length * 6
  get : ∀ (j : Nat) (x : Bl), l[j]? = some x → ∃ A c ys, (∀ (r : Nat) v, (blCells x A c)[r]? = some v → xs[j * 6 + r]? = some v) ∧ RdG W 72 A ys ∧ OpsX W ys x.ops
section
variable {W W' : World} {xs ys : List Value}
theorem OpsX.nil (W : World) : OpsX W [] [] := ⟨rfl, fun j o h => by simp at h⟩
theorem BlsX.nil (W : World) : BlsX W [] [] := ⟨rfl, fun j o h => by simp at h⟩
theorem OpsX.keep {l : List Op} (h : OpsX W ys l) (hk : ∀ (g : Nat) (cs : Array Value), W.heap[g]? = some (Obj.cells cs 3 (0, 0)) → W'.heap[g]? = W.heap[g]?) : OpsX W' ys l := by
  refine ⟨h.len, fun j o ho => ?_⟩
  obtain ⟨A, c, h1, h2⟩ := h.get j o ho
  exact ⟨A, c, h1, h2.keep hk⟩
theorem BlsX.keep {l : List Bl} (h : BlsX W xs l) (hk : ∀ (g : Nat) (cs : Array Value) (E : TypeId), E = 3 ∨ E = 72 → W.heap[g]? = some (Obj.cells cs E (0, 0)) → W'.heap[g]? = W.heap[g]?) : BlsX W' xs l := by
  refine ⟨h.len, fun j x hx => ?_⟩
  obtain ⟨A, c, ys, h1, h2, h3⟩ := h.get j x hx
  exact ⟨A, c, ys, h1, h2.keep fun g cs hg => hk g cs 72 (.inr rfl) hg, h3.keep fun g cs hg => hk g cs 3 (.inl rfl) hg⟩
theorem OpsX.snoc {l : List Op} (h : OpsX W ys l) {o : Op} {A : Option Addr} {c : Nat} (hr : RdT W A o.args) : OpsX W (ys ++ opCells o A c) (l ++ [o]) := by
  have hl := h.len
  refine ⟨by rw [List.length_append, List.length_append, hl]; show _ + 7 = _; simp; omega, fun j p hp => ?_⟩
  rcases Nat.lt_or_ge j l.length with hj | hj
  · rw [List.getElem?_append_left hj] at hp
    obtain ⟨B, d, h1, h2⟩ := h.get j p hp
    exact ⟨B, d, fun r v hv => by
      have hr7 : r < 7 := (List.getElem?_eq_some_iff.1 hv).1
      rw [List.getElem?_append_left (by omega)]
      exact h1 r v hv, h2⟩
  · rw [List.getElem?_append_right hj] at hp
    have hj0 : j - l.length = 0 := by
      have := (List.getElem?_eq_some_iff.1 hp).1
      simp at this
      omega
    rw [hj0] at hp
    cases hp
    have hje : j = l.length := by omega
    subst hje
    exact ⟨A, c, fun r v hv => by rw [List.getElem?_append_right (by omega), show l.length * 7 + r - ys.length = r by omega]; exact hv, hr⟩
theorem BlsX.snoc {l : List Bl} (h : BlsX W xs l) {x : Bl} {A : Option Addr} {c : Nat} (hr : RdG W 72 A ys) (ho : OpsX W ys x.ops) : BlsX W (xs ++ blCells x A c) (l ++ [x]) := by
  have hl := h.len
  refine ⟨by rw [List.length_append, List.length_append, hl]; show _ + 6 = _; simp; omega, fun j p hp => ?_⟩
  rcases Nat.lt_or_ge j l.length with hj | hj
  · rw [List.getElem?_append_left hj] at hp
    obtain ⟨B, d, zs, h1, h2, h3⟩ := h.get j p hp
    exact ⟨B, d, zs, fun r v hv => by
      have hr7 : r < 6 := (List.getElem?_eq_some_iff.1 hv).1
      rw [List.getElem?_append_left (by omega)]
      exact h1 r v hv, h2, h3⟩
  · rw [List.getElem?_append_right hj] at hp
    have hj0 : j - l.length = 0 := by
      have := (List.getElem?_eq_some_iff.1 hp).1
      simp at this
      omega
    rw [hj0] at hp
    cases hp
    have hje : j = l.length := by omega
    subst hje
    exact ⟨A, c, ys, fun r v hv => by rw [List.getElem?_append_right (by omega), show l.length * 6 + r - xs.length = r by omega]; exact hv, hr, ho⟩
theorem OpsX.at {l : List Op} {A : Option Addr} (h : OpsX W ys l) (hr : RdG W 72 A ys) : ∃ AA ac, OpsAt W W.heap.size A l AA ac := by
  have key : ∀ j : Nat, ∃ q : Option Addr × Nat, ∀ o, l[j]? = some o → (∀ (r : Nat) v, (opCells o q.1 q.2)[r]? = some v → ys[j * 7 + r]? = some v) ∧ RdT W q.1 o.args := fun j => by
    cases hj : l[j]? with
    | none => exact ⟨(none, 0), fun o ho => by cases ho⟩
    | some o =>
      obtain ⟨A, c, h1, h2⟩ := h.get j o hj
      exact ⟨(A, c), fun p hp => by cases hp; exact ⟨h1, h2⟩⟩
  obtain ⟨q, hq⟩ := Classical.axiomOfChoice key
  refine ⟨fun j => (q j).1, fun j => (q j).2, ⟨fun h0 => ?_, fun j o ho => ((hq j o ho).2).rd⟩⟩
  obtain ⟨ad, e, hb, hc⟩ := hr.rd (by intro e; have := h.len; rw [e] at this; simp at this; omega)
  exact ⟨ad, e, hb, fun j o ho r v hv => hc _ _ ((hq j o ho).1 r v hv)⟩
theorem BlsX.at {l : List Bl} {A : Option Addr} (h : BlsX W xs l) (hr : RdG W 52 A xs) : ∃ OA oc AA ac, BlsAt W W.heap.size A l OA oc AA ac := by
  have key : ∀ j : Nat, ∃ q : Option Addr × Nat × (Nat → Option Addr) × (Nat → Nat), ∀ x, l[j]? = some x → (∀ (r : Nat) v, (blCells x q.1 q.2.1)[r]? = some v → xs[j * 6 + r]? = some v) ∧ OpsAt W W.heap.size q.1 x.ops q.2.2.1 q.2.2.2 := fun j => by
    cases hj : l[j]? with
    | none => exact ⟨(none, 0, fun _ => none, fun _ => 0), fun o ho => by cases ho⟩
    | some x =>
      obtain ⟨A, c, ys, h1, h2, h3⟩ := h.get j x hj
      obtain ⟨AA, ac, h4⟩ := h3.at h2
      exact ⟨(A, c, AA, ac), fun p hp => by cases hp; exact ⟨h1, h4⟩⟩
  obtain ⟨q, hq⟩ := Classical.axiomOfChoice key
  refine ⟨fun j => (q j).1, fun j => (q j).2.1, fun j => (q j).2.2.1, fun j => (q j).2.2.2, ⟨fun h0 => ?_, fun j x hx => (hq j x hx).2⟩⟩
  obtain ⟨ad, e, hb, hc⟩ := hr.rd (by intro e; have := h.len; rw [e] at this; simp at this; omega)
  exact ⟨ad, e, hb, fun j x hx r v hv => hc _ _ ((hq j x hx).1 r v hv)⟩
theorem slots_rd {B : Nat} {A : Option Addr} {l : List Slot} (h : SlotsAt W B A l) : Rd W B A (l.flatMap slotCells) := fun hn => by
  obtain ⟨ad, e, hb, hc⟩ := h (by rcases l with _ | ⟨x, l⟩; · exact absurd rfl hn
                                  · simp)
  refine ⟨ad, e, hb, fun q v hv => ?_⟩
  have eq : q = q / 3 * 3 + q % 3 := by omega
  rw [eq, flat_get slotCells 3 (fun _ => rfl) l _ _ (Nat.mod_lt _ (by decide))] at hv
  cases hx : l[q / 3]? with
  | none => rw [hx] at hv; cases hv
  | some x =>
    rw [hx] at hv
    have := hc _ _ hx _ _ hv
    rwa [← eq] at this
theorem slots_at {A : Option Addr} {l : List Slot} {E : TypeId} (h : RdG W E A (l.flatMap slotCells)) : SlotsAt W W.heap.size A l := fun h0 => by
  obtain ⟨ad, e, hb, hc⟩ := h.rd (by intro e; have := flat_len slotCells 3 (fun _ => rfl) l; rw [e] at this; simp at this; omega)
  refine ⟨ad, e, hb, fun j x hx r v hv => hc _ _ ?_⟩
  rw [flat_get slotCells 3 (fun _ => rfl) l _ _ (List.getElem?_eq_some_iff.1 hv).1, hx]
  exact hv
theorem fn_of {f : Fn} {S BA : Option Addr} (sc bc : Nat) (hs : RdG W 127 S (f.slots.flatMap slotCells)) (hb : RdG W 52 BA xs) (hx : BlsX W xs f.bl) : ∃ OA oc AA ac, FnAt W W.heap.size f ⟨S, sc, BA, bc, OA, oc, AA, ac⟩ := by
  obtain ⟨OA, oc, AA, ac, h⟩ := hx.at hb
  exact ⟨OA, oc, AA, ac, ⟨slots_at hs, h⟩⟩
end
theorem slot_one {l : List Slot} : ∀ u ∈ l.flatMap slotCells, u.oneCell' = true := fun u hu => by
  obtain ⟨s, -, h⟩ := List.mem_flatMap.1 hu
  simp [slotCells] at h
  rcases h with rfl | rfl | rfl <;> rfl
theorem op_one (o : Op) (A : Option Addr) (c : Nat) : ∀ u ∈ opCells o A c, u.oneCell' = true := fun u hu => by
  simp [opCells] at hu
  rcases hu with rfl | rfl | rfl | rfl | rfl | rfl | rfl <;> rfl
theorem bl_one (x : Bl) (A : Option Addr) (c : Nat) : ∀ u ∈ blCells x A c, u.oneCell' = true := fun u hu => by
  simp [blCells] at hu
  rcases hu with rfl | rfl | rfl | rfl | rfl | rfl <;> rfl
theorem own_empty {w : World} {E : TypeId} {size : Nat} : (w.alloc (.cells #[] E)).ownsRow w.heap.size E size (.slice (some ⟨w.heap.size, 0, none⟩) 0 0) 0 [] := ⟨by simp, .inr ⟨w.heap.size, 0, #[], rfl, Nat.le_refl _, heap_alloc_new w _, Nat.le_refl _, Nat.zero_le _, by simp, by simp⟩⟩
theorem own_keep_any {W W' : World} {lo E size : Nat} {v : Value} {k : Nat} {xs : List Value} {row : Option Nat} (h : W.ownsRow lo E size v k xs) (hg : W.grownBy W' row) (hne : ∀ b, v.ownBlock = some b → row ≠ some b) : W'.ownsRow lo E size v k xs :=
  own_same h fun g e => hg.block g (h.lt g e).2 (fun e2 => hne g e e2.symm)
set_option maxRecDepth 20000 in
set_option maxHeartbeats 4000000 in
theorem Ints_15 (A : Option Addr) (c : Nat) (l : List Int) (w : World) (hr : Rd w w.heap.size A (ints l)) (hn : l.length ≤ 1048576) :
    Calls Tryz.prog 15 #[.slice A l.length c] w fun e w' => ∃ A' c', e = .returned (.slice A' l.length c') ∧ w'.ownsRow w.heap.size 3 1 (.slice A' l.length c') l.length (ints l) ∧ Below w.heap.size w w' := by
  obtain ⟨i0, hi, hz0, hz1, hz2⟩ := info_parts info3q
  have hle : (0 + l.length) * 8 ≤ 140737488355328 := by omega
  have hml : 0 + l.length ≤ maxLen := by simp only [maxLen]; omega
  have HON : Hid (∀ u ∈ ints l, u.oneCell' = true) := Lib.hid (by intro u hu; obtain ⟨x, _, rfl⟩ := List.mem_map.1 hu; rfl)
  have HE : Hid (World.ownsRow (w.alloc (.cells #[] 3)) w.heap.size 3 1 (.slice (some ⟨w.heap.size, 0, none⟩) 0 0) 0 []) := Lib.hid own_empty
  have HR2 : Hid (Rd (w.alloc (.cells #[] 3)) (w.alloc (.cells #[] 3)).heap.size A (ints l)) := Lib.hid ((hr.below ((Below.refl _ _).alloc (Nat.le_refl _) _)).more (by simp))
  clear hr
  go_enter Tryz.func15, Tryz.ntmps15
  go_wp2_with (at_builtin; go_loud (refine wpList_append_rd (w := w.alloc (.cells #[] 3)) rfl (.tmp 3) (.tmp 4) 27 rfl w.heap.size 3 i0 (.int .i64 0) 1 8 Tryz.underlying27 hi hz0 hz1 hz2 rfl (by omega) (.slice (some ⟨w.heap.size, 0, none⟩) 0 0) 0 [] rfl HE.out _ A l.length c (ints l) rfl (by rw [ints_length, Nat.mul_one]) HR2.out HON.out hml hle (by simp) ?_); intro v6 w6 ho6 hg6 _; have HO6 := Lib.hid ho6; have HG6 := Lib.hid hg6; clear ho6 hg6)
  go_ret
  have ho := HO6.out
  rw [List.nil_append, Nat.zero_add] at ho
  obtain ⟨A6, c6, rfl, -, -⟩ := own_form ho
  exact ⟨A6, c6, rfl, ho, ((Below.refl w.heap.size w).alloc (Nat.le_refl _) _).grown HG6.out (by simp) (fun j hj => (HE.out.lt j hj).1)⟩
end Go.Proofs.YthgbmhpfblgjcaaGreatDoor.fl
