/-
  What all of package catapultlaw14 has told, as it stands in memory; it stands while a store is written. No condition.
-/
import Derived.Test.YtejhphnlickjlaaDoorBmB
import Derived.Test.YtejhphnlickjlaaDoorBmO
import Derived.Laws.BitsLemmas
set_option linter.unusedVariables false
set_option linter.unusedSimpArgs false
namespace Go.Proofs.YtejhphnlickjlaaDoor.bl
open Go.RowKit
open M ty
set_option linter.unusedVariables false
theorem sih54 : Tryd.prog.stoodInHeld 54 = false := by kernel_rfl
theorem egt54 : Tryd.prog.eqGuardType Tryd.prog.depth 54 = false := by kernel_rfl
theorem fo54 : (Tryd.prog.fieldsOf 54).toList.map (fun f => (f.name, f.type, f.offset)) = [("Kind", 3, 0), ("N", 3, 1), ("C", 3, 2), ("V", 24, 3)] := by kernel_rfl
theorem und54 : Tryd.prog.underlying 54 = some (.struct (Tryd.prog.fieldsOf 54)) := by kernel_rfl
theorem grdB (op : BinOp) (x y : Operand) (xs ys : Array Value) (W : World) : (eqGuard op 54 x y (.agg xs) (.agg ys)).run Tryd.prog W = .ok () W := run_eqGuard_agg W op 54 x y xs ys egt54
theorem part24 (a b c d e f : Value) (W : World) : (part 24 #[a, b, c, d, e, f] 3).run Tryd.prog W = .ok (.agg #[d, e, f]) W := by kernel_rfl
theorem eqIn24 (n : Nat) (a i o a' i' o' : Int) (W : World) : (Op.equalIn (n + 2) 24 (.agg #[.int .i64 a, .int .i64 i, .int .i64 o]) (.agg #[.int .i64 a', .int .i64 i', .int .i64 o'])).run Tryd.prog W = .ok (a == a' && (i == i' && o == o')) W := by
  rw [run_equalIn_agg W (n + 1) 24 _ _ und24 sih24]
  have h := fo24
  generalize (Tryd.prog.fieldsOf 24).toList = fs at *
  rcases fs with _ | ⟨f, _ | ⟨f1, _ | ⟨f2, _ | ⟨f3, r⟩⟩⟩⟩
  case cons.cons.cons.nil =>
    simp only [List.map_cons, List.map_nil, List.cons.injEq, Prod.mk.injEq] at h
    obtain ⟨⟨n0, t0, o0⟩, ⟨n1, t1, o1⟩, ⟨n2, t2, o2⟩, _⟩ := h
    simp [Op.eqFields, n0, t0, o0, n1, t1, o1, n2, t2, o2, part3, eqI]
    by_cases ha : a = a' <;> by_cases hi : i = i' <;> by_cases ho : o = o' <;> simp [ha, hi, ho]
  all_goals simp at h
def By.eqB (x y : By) : Bool := x.k == y.k && (x.n == y.n && (x.c == y.c && (x.a == y.a && (x.i == y.i && x.o == y.o))))
theorem By.eqB_true {x y : By} (h : x.eqB y = true) : x = y := by
  obtain ⟨k, n, c, a, i, o⟩ := x
  obtain ⟨k', n', c', a', i', o'⟩ := y
  simp [By.eqB] at h
  obtain ⟨rfl, rfl, rfl, rfl, rfl, rfl⟩ := h
  rfl
theorem By.eqB_self (x : By) : x.eqB x = true := by simp [By.eqB]
theorem eqB (x y : By) (W : World) : (binOp .neq 54 (.agg #[.int .i64 x.k, .int .i64 x.n, .int .i64 x.c, .int .i64 x.a, .int .i64 x.i, .int .i64 x.o]) (.agg #[.int .i64 y.k, .int .i64 y.n, .int .i64 y.c, .int .i64 y.a, .int .i64 y.i, .int .i64 y.o])).run Tryd.prog W = .ok (.bool (!(x.eqB y))) W := by
  rw [run_neq_struct, run_equalIn_agg W 9999 54 _ _ und54 sih54]
  have h := fo54
  generalize (Tryd.prog.fieldsOf 54).toList = fs at *
  rcases fs with _ | ⟨f, _ | ⟨f1, _ | ⟨f2, _ | ⟨f3, _ | ⟨f4, r⟩⟩⟩⟩⟩
  case cons.cons.cons.cons.nil =>
    simp only [List.map_cons, List.map_nil, List.cons.injEq, Prod.mk.injEq] at h
    obtain ⟨⟨n0, t0, o0⟩, ⟨n1, t1, o1⟩, ⟨n2, t2, o2⟩, ⟨n3, t3, o3⟩, _⟩ := h
    have e24 := eqIn24 9997 x.a x.i x.o y.a y.i y.o
    unfold By.eqB
    simp [Op.eqFields, n0, t0, o0, n1, t1, o1, n2, t2, o2, n3, t3, o3, part3, part24, eqI, e24]
    by_cases h0 : x.k = y.k <;> by_cases h1 : x.n = y.n <;> by_cases h2 : x.c = y.c <;> simp [h0, h1, h2]
    by_cases h3 : x.a = y.a <;> by_cases h4 : x.i = y.i <;> by_cases h5 : x.o = y.o <;> simp [h3, h4, h5]
  all_goals simp at h
end Go.Proofs.YtejhphnlickjlaaDoor.bl
namespace Go.Proofs.YtejhphnlickjlaaDoor.bl
open Go.RowKit
open M ty
set_option linter.unusedVariables false
theorem stepA_of {a : Int} {x : By} (h0 : 0 ≤ a) (h1 : a < 16777216) (n0 : 0 ≤ x.n) (n1 : x.n < 256) : stepA a x = a * 256 + x.n := by
  unfold stepA
  rw [IntWalk.wrap64_in _ (by omega)]
  exact bits_join .i64 63 (by decide) (fun n h0 h1 => wrapIn (by omega) (by omega)) 8 _ _ (by omega) (by omega) (by omega) n0 (by omega) (by omega)
theorem st_one (x : Int) : stB 1 1 x 0 = [⟨1, x % 256, 0, 0, 0, 0⟩] := by simp [stB, List.range_succ]
theorem st_two (x : Int) : stB 2 1 x 0 = [⟨1, x % 256, 0, 0, 0, 0⟩, ⟨1, x / 256 % 256, 0, 0, 0, 0⟩] := by simp [stB, List.range_succ]
theorem st_four (x : Int) : stB 4 1 x 0 = [⟨1, x % 256, 0, 0, 0, 0⟩, ⟨1, x / 256 % 256, 0, 0, 0, 0⟩, ⟨1, x / 65536 % 256, 0, 0, 0, 0⟩, ⟨1, x / 16777216 % 256, 0, 0, 0, 0⟩] := by simp [stB, List.range_succ]
theorem num_one (x : Int) (h0 : -128 ≤ x) (h1 : x ≤ 127) : numT 127 (stB 1 1 x 0) = x := by
  rw [st_one, show numT 127 [⟨1, x % 256, 0, 0, 0, 0⟩] = numV 127 1 (stepA 0 ⟨1, x % 256, 0, 0, 0, 0⟩) from rfl]
  rw [stepA_of (by omega) (by omega) (by simp only; omega) (by simp only; omega)]
  unfold numV
  simp only
  split
  · rw [IntWalk.wrap64_in _ (by omega)]; omega
  · omega
theorem num_two (x : Int) (h0 : -32768 ≤ x) (h1 : x ≤ 32767) : numT 32767 (stB 2 1 x 0) = x := by
  rw [st_two, show numT 32767 [⟨1, x % 256, 0, 0, 0, 0⟩, ⟨1, x / 256 % 256, 0, 0, 0, 0⟩] = numV 32767 2 (stepA (stepA 0 ⟨1, x / 256 % 256, 0, 0, 0, 0⟩) ⟨1, x % 256, 0, 0, 0, 0⟩) from rfl]
  rw [stepA_of (a := 0) (by omega) (by omega) (by simp only; omega) (by simp only; omega)]
  simp only
  rw [stepA_of (by omega) (by omega) (by simp only; omega) (by simp only; omega)]
  unfold numV
  simp only
  split
  · rw [IntWalk.wrap64_in _ (by omega)]; omega
  · omega
theorem num_four (hi x : Int) (h : hi = 2147483647 ∧ -2147483648 ≤ x ∧ x ≤ 2147483647 ∨ hi = 4294967295 ∧ 0 ≤ x ∧ x ≤ 4294967295) : numT hi (stB 4 1 x 0) = x := by
  rw [st_four, show numT hi [⟨1, x % 256, 0, 0, 0, 0⟩, ⟨1, x / 256 % 256, 0, 0, 0, 0⟩, ⟨1, x / 65536 % 256, 0, 0, 0, 0⟩, ⟨1, x / 16777216 % 256, 0, 0, 0, 0⟩] = numV hi 4 (stepA (stepA (stepA (stepA 0 ⟨1, x / 16777216 % 256, 0, 0, 0, 0⟩) ⟨1, x / 65536 % 256, 0, 0, 0, 0⟩) ⟨1, x / 256 % 256, 0, 0, 0, 0⟩) ⟨1, x % 256, 0, 0, 0, 0⟩) from rfl]
  rw [stepA_of (a := 0) (by omega) (by omega) (by simp only; omega) (by simp only; omega)]
  simp only
  rw [stepA_of (a := 0 * 256 + x / 16777216 % 256) (by omega) (by omega) (by simp only; omega) (by simp only; omega)]
  simp only
  rw [stepA_of (a := (0 * 256 + x / 16777216 % 256) * 256 + x / 65536 % 256) (by omega) (by omega) (by simp only; omega) (by simp only; omega)]
  simp only
  rw [stepA_of (by omega) (by omega) (by simp only; omega) (by simp only; omega)]
  unfold numV
  simp only
  split
  · rw [IntWalk.wrap64_in _ (by omega)]; omega
  · omega
theorem stB_all (n : Nat) (x y : Int) : ∀ b ∈ stB n 1 x y, b.k = 1 := by
  intro b hb
  simp [stB] at hb
  obtain ⟨m, _, rfl⟩ := hb
  rfl
theorem stB_pie {n : Nat} {a : Int} (x y : Int) (ha : a ≠ 1) {j : Nat} {b : By} (hb : (stB n a x y)[j]? = some b) : b = ⟨2, j, 0, a, x, y⟩ := by
  obtain ⟨hj, rfl⟩ := List.getElem?_eq_some_iff.1 hb
  simp [stB, ha]
/-- what a load of stored bytes hands back: the value that was stored -/
theorem load_stB {l : List Int} {a x y : Int} (hw : widthT l ≠ 0) (hf : fitsT l a x y = true) : loadB l (stB (widthT l) a x y) = (0, a, x, y) := by
  unfold fitsT at hf
  by_cases hb : T.bitsT l = 0
  · rw [if_neg (fun h => h hb)] at hf
    have ha : a ≠ 1 := by
      rintro rfl
      simp at hf
    have hu : (stB (widthT l) a x y).any isUn = false := by
      rw [List.any_eq_false]
      intro b hm
      obtain ⟨j, hj, rfl⟩ := List.mem_iff_getElem.1 hm
      rw [stB_pie x y ha (List.getElem?_eq_getElem hj)]
      simp [isUn]
    have h0 : (stB (widthT l) a x y)[0]?.getD By.zero = ⟨2, 0, 0, a, x, y⟩ := by
      have hlt : 0 < (stB (widthT l) a x y).length := by rw [stB_length]; omega
      rw [List.getElem?_eq_getElem hlt]
      exact stB_pie x y ha (List.getElem?_eq_getElem hlt)
    unfold loadB
    rw [if_neg (by rw [hu]; decide), if_neg (fun h => h hb), h0, if_pos]
    intro j _ b hj
    rw [stB_pie x y ha hj]
    exact ⟨rfl, rfl, rfl, rfl, rfl⟩
  · rw [if_pos hb] at hf
    simp only [Bool.and_eq_true, decide_eq_true_eq] at hf
    obtain ⟨⟨⟨rfl, rfl⟩, h0⟩, h1⟩ := hf
    have hu : (stB (widthT l) 1 x 0).any isUn = false := by
      rw [List.any_eq_false]
      intro b hm
      simp [isUn, stB_all _ _ _ b hm]
    have ha : (stB (widthT l) 1 x 0).all (fun x => x.k == 1) = true := by
      rw [List.all_eq_true]
      intro b hm
      simp [stB_all _ _ _ b hm]
    have hn : numT (rangeT l).2 (stB (widthT l) 1 x 0) = x := by
      rcases T.bits_one hb with rfl | rfl | rfl | rfl
      · rw [show widthT [99] = 1 by simp [widthT, T.bitsT]]
        exact num_one x (by simpa [rangeT] using h0) (by simpa [rangeT] using h1)
      · rw [show widthT [115] = 2 by simp [widthT, T.bitsT]]
        exact num_two x (by simpa [rangeT] using h0) (by simpa [rangeT] using h1)
      · rw [show widthT [105] = 4 by simp [widthT, T.bitsT]]
        exact num_four _ x (.inl ⟨by simp [rangeT], by simpa [rangeT] using h0, by simpa [rangeT] using h1⟩)
      · rw [show widthT [117] = 4 by simp [widthT, T.bitsT]]
        exact num_four _ x (.inr ⟨by simp [rangeT], by simpa [rangeT] using h0, by simpa [rangeT] using h1⟩)
    unfold loadB
    rw [if_neg (by rw [hu]; decide), if_pos hb, if_pos ha, hn]
theorem store_zero {st : St} {l : List Int} {k i o a x y : Int} (h : storeE st l k i o a x y = 0) : widthT l ≠ 0 ∧ fitsT l a x y = true ∧ reachE st k i o (widthT l) = 0 ∧ o.tmod (widthT l) = 0 ∧ kindOf st i ≠ 1 := by
  unfold storeE at h
  split at h
  · exact absurd h (by decide)
  · rename_i h0
    split at h
    · rename_i h1; exact absurd h h1
    · rename_i h1
      split at h
      · exact absurd h (by decide)
      · rename_i h2
        split at h
        · exact absurd h (by decide)
        · rename_i h3
          exact ⟨fun e => h0 (.inl e), by cases hf : fitsT l a x y with | true => rfl | false => exact absurd (.inr hf) h0, Decidable.not_not.1 h1, Decidable.not_not.1 h2, h3⟩
/-- A LOAD TELLS THE LAST STORE -/
theorem load_store {st : St} {l : List Int} {k i o a x y : Int} (h : storeE st l k i o a x y = 0) : loadR (st.put (i - 1).toNat o.toNat (stB (widthT l) a x y)) l k i o = (0, a, x, y) := by
  obtain ⟨hw, hf, hr, hq, hk⟩ := store_zero h
  obtain ⟨rfl, i1, i2, o0, b, hb, hd, h3, h4⟩ := reach_zero hr
  obtain ⟨j, rfl⟩ : ∃ j : Nat, i = (j : Int) + 1 := ⟨(i - 1).toNat, by omega⟩
  have e1 : ((j : Int) + 1 - 1).toNat = j := by omega
  rw [e1] at hb ⊢
  have hfit : o.toNat + (stB (widthT l) a x y).length ≤ b.bs.length := by rw [stB_length]; omega
  have hr2 : reachE (st.put j o.toNat (stB (widthT l) a x y)) 2 ((j : Int) + 1) o (widthT l) = 0 := by rw [reach_put hb hfit]; exact hr
  have hbytes := bytes_put hb hfit (n := ((widthT l : Nat) : Int)) (by rw [stB_length]; omega)
  rw [show ((o.toNat : Nat) : Int) = o by omega, List.take_of_length_le (by rw [stB_length]; omega)] at hbytes
  unfold loadR
  rw [if_neg hw, if_neg (fun h => h hr2), if_neg (fun h => h hq), hbytes]
  exact load_stB hw hf
/-- a block's bytes; none: there is no such block -/
def bsAt (st : St) (b : Nat) : List By := (st.bl[b]?.map Bk.bs).getD []
def livesAt (st : St) (b : Nat) : Bool := (st.bl[b]?.map fun x => !x.dead).getD false
/-- what a store leaves as it was -/
theorem put_lives (st : St) (j q : Nat) (z : List By) (b : Nat) : livesAt (st.put j q z) b = livesAt st b := by
  unfold livesAt
  by_cases hb : b = j
  · subst hb
    cases h : st.bl[b]? with
    | none => simp [St.put, h]
    | some x => rw [put_self q z h]; rfl
  · rw [put_other q z hb]
theorem put_bytes {st : St} {j q : Nat} {z : List By} {b : Bk} (hj : st.bl[j]? = some b) (hq : q + z.length ≤ b.bs.length) (m : Nat) :
    (bsAt (st.put j q z) m).length = (bsAt st m).length ∧ ∀ i, ¬ (m = j ∧ q ≤ i ∧ i < q + z.length) → (bsAt (st.put j q z) m)[i]? = (bsAt st m)[i]? := by
  unfold bsAt
  by_cases hm : m = j
  · subst hm
    rw [put_self q z hj, hj]
    refine ⟨putB_length hq, fun i hi => ?_⟩
    simp only [Option.map_some, Option.getD_some]
    rw [putB_get hq]
    split
    · rfl
    · rw [if_neg (by omega)]
  · rw [put_other q z hm]
    exact ⟨rfl, fun _ _ => rfl⟩
end Go.Proofs.YtejhphnlickjlaaDoor.bl
namespace Go.Proofs.YtejhphnlickjlaaDoor.bl
open Go.RowKit
open M ty
set_option linter.unusedVariables false
theorem rd_bytes {w : World} {y : Nat} {bs : List By} (h : w.heap[y]? = some (.cells (bys bs).toArray 54 (0, 0))) : Rd w w.heap.size (some ⟨y, 0, none⟩) (bys bs) := fun _ =>
  ⟨_, rfl, (Array.getElem?_eq_some_iff.1 h).1, fun j u hu => by
    rw [add_flat]
    have := Go.Joins.cell_of_block h j
    rw [this]
    simpa using hu⟩
theorem own_empty (w : World) (base : Nat) (hb : base ≤ w.heap.size) : (w.alloc (.cells #[] 54)).ownsRow base 54 6 (.slice (some ⟨w.heap.size, 0, none⟩) 0 0) 0 [] :=
  ⟨rfl, .inr ⟨_, 0, #[], rfl, hb, heap_alloc_new w _, Nat.le_refl _, Nat.zero_le _, rfl, rfl⟩⟩
set_option maxRecDepth 20000 in
set_option maxHeartbeats 1600000 in
theorem clone_any (y n : Nat) (bs : List By) (w : World) (hl : bs.length = n) (hn : n ≤ 131072) (hA : Rd w w.heap.size (some ⟨y, 0, none⟩) (bys bs)) :
    Calls Tryd.prog 82 #[.slice (some ⟨y, 0, none⟩) n n] w fun e w' => ∃ A c, e = .returned (.slice A n c) ∧ w'.ownsRow w.heap.size 54 6 (.slice A n c) n (bys bs) ∧ Below w.heap.size w w' := by
  obtain ⟨i0, hi0, hz0, hz1, hz2⟩ := info_parts info54z
  have HA := Lib.hid hA
  have Hl := Lib.hid hl
  have HO := Lib.hid (own_empty w w.heap.size (Nat.le_refl _))
  clear hA hl
  have he : ∀ w : World, (binOp .eql 52 (.slice (some ⟨y, 0, none⟩) n n) (.slice none 0 0)).run Tryd.prog w = .ok (.bool false) w := fun _ => rfl
  go_enter Tryd.func82, Tryd.ntmps82
  go_wp2_with (first
    | (at_builtin; refine wpList_append_rd (w := w.alloc (.cells #[] 54)) rfl (.tmp 5) (.tmp 6) 52 rfl w.heap.size 54 i0 _ 6 48 Tryd.underlying52 hi0 hz0 hz1 hz2 rfl (by omega) _ 0 [] rfl HO.out w.heap.size (some ⟨y, 0, none⟩) n n (bys bs) rfl (by rw [bys_length, Hl.out]; omega) (HA.out.alloc (Nat.le_refl _) _) (bys_one bs) (by simp only [maxLen]; omega) (by omega) (by simp) ?_; intro v' w2 hown hgrow hob; obtain ⟨A', c', rfl, hc1, hc2⟩ := own_form hown; have H2 := Lib.hid hown; have HG := Lib.hid hgrow; clear hown hgrow hob))
  go_ret
  refine ⟨_, _, rfl, by have := H2.out; simpa using this, ?_⟩
  exact ((Below.refl _ _).alloc (Nat.le_refl _) _).trans ⟨HG.out.os, HG.out.tape, HG.out.output, HG.out.size, fun q hq => HG.out.block q (by simp; omega) (fun e => by have := Option.some.inj e; simp at this; omega)⟩
/-- a block's bytes; none: there is no such block -/
def bsOf (st : St) (b : Int) : List By := if 1 ≤ b ∧ b ≤ st.bl.length then ((st.bl[(b - 1).toNat]?.map Bk.bs).getD []) else []
def CloneIs (w : World) (y n : Nat) (bs : List By) : Prop := Calls Tryd.prog 82 #[.slice (some ⟨y, 0, none⟩) n n] w fun e w' => ∃ A c, e = .returned (.slice A n c) ∧ w'.ownsRow w.heap.size 54 6 (.slice A n c) n (bys bs) ∧ Below w.heap.size w w'
section
variable {w : World} {B g N : Nat} {st : St} {L : Lay}
set_option maxRecDepth 20000 in
theorem bytes_any (h : Sto w B g N st L) (b : Int) (i0 : -9223372036854775808 ≤ b) (i1 : b ≤ 9223372036854775807) :
    Calls Tryd.prog 66 #[.pointer (some ⟨g, 0, none⟩), .int .i64 b] w fun e w' => ∃ A c E, e = .returned (.tuple #[.slice A (bsOf st b).length c, .int .i64 E]) ∧ w'.ownsRow w.heap.size 54 6 (.slice A (bsOf st b).length c) (bsOf st b).length (bys (bsOf st b)) ∧ Below w.heap.size w w' := by
  have HO : Hid (OfIs w g b (ofP st L b)) := Lib.hid (of_any h b i0 i1)
  by_cases hi : 1 ≤ b ∧ b ≤ st.bl.length
  · obtain ⟨j, rfl⟩ : ∃ j : Nat, b = (j : Int) + 1 := ⟨(b - 1).toNat, by omega⟩
    have hj : j < st.bl.length := by omega
    have e1 : ((j : Int) + 1 - 1).toNat = j := by omega
    have hb : st.bl[j]? = some st.bl[j] := List.getElem?_eq_getElem hj
    obtain ⟨b1, b2, b3, b4, b5⟩ := h.body j _ hb
    have hof : ofP st L ((j : Int) + 1) = .pointer (some ⟨L.pb j, 0, none⟩) := by unfold ofP; rw [if_pos hi, e1]
    rw [hof] at HO
    rw [show bsOf st ((j : Int) + 1) = st.bl[j].bs from by unfold bsOf; rw [if_pos hi, e1, hb]; simp]
    have HC : Hid (CloneIs w (L.py j) st.bl[j].bs.length st.bl[j].bs) := Lib.hid (clone_any (L.py j) _ _ _ rfl b5 (rd_bytes b4))
    have c2 : w.cell? ⟨L.pb j, 2, none⟩ = some (.slice (some ⟨L.py j, 0, none⟩) st.bl[j].bs.length st.bl[j].bs.length) := Go.Joins.cell_of_block b3 2
    clear hof hb b1 b2 b3 b4 b5 h hi e1
    generalize st.bl[j].bs = l at *
    generalize hl : l.length = n at *
    have Hl := Lib.hid hl
    clear hl
    generalize L.pb j = p at *
    generalize L.py j = y at *
    go_enter Tryd.func66, Tryd.ntmps66
    go_wp2_with (first | (go_at_call 67; refine HO.out.mono ?_; rintro e w1 ⟨rfl, rfl⟩) | (go_at_call 82; refine HC.out.mono ?_; rintro e w1 ⟨A, c, rfl, hown, hb⟩; have H := Lib.hid hown; have HB := Lib.hid hb; clear hown hb))
    go_ret2
    exact ⟨_, _, _, rfl, H.out, HB.out⟩
  · have hof : ofP st L b = .pointer none := by unfold ofP; rw [if_neg hi]
    rw [hof] at HO
    rw [show bsOf st b = [] from by unfold bsOf; rw [if_neg hi]]
    clear hof h hi
    go_enter Tryd.func66, Tryd.ntmps66
    go_wp2_with (first | (go_at_call 67; refine HO.out.mono ?_; rintro e w1 ⟨rfl, rfl⟩))
    go_ret2
    exact ⟨none, 0, 4, rfl, ⟨rfl, .inl ⟨rfl, rfl⟩⟩, Below.refl _ _⟩
end
end Go.Proofs.YtejhphnlickjlaaDoor.bl
namespace Go.Proofs.YtejhphnlickjlaaDoor.bl
open Go.RowKit
open M ty
set_option linter.unusedVariables false
theorem info52 : (Tryd.prog.info? 52).map (fun i => (i.zero, i.size, i.bytes)) = some (some (.slice none 0 0), 1, 24) := by kernel_rfl
theorem info4 : (Tryd.prog.info? 4).map (fun i => (i.zero, i.size, i.bytes)) = some (some (.bool false), 1, 1) := by kernel_rfl
theorem wpList_append_rs {P : Program} (w : World) {ops : Array Oper} {rest : List Oper} {o : Oper} {a : Act} {Q : Exit → Act → World → Prop} (hgd : o.guard = none) (s x : Operand) (t : TypeId)
    (ho : o.op = .call { callee := .builtin .append, args := #[s, x], argTypes := #[t, t] })
    (base : Nat) (e : TypeId) (i : TypeInfo) (z : Value) (size bytes : Nat) (ht : P.underlying t = some (.slice e)) (hi : P.info? e = some i) (hz : i.zero = some z)
    (hsize : i.size = size) (hby : i.bytes = bytes) (hzs : z.cells.size = size) (hsz : 0 < size)
    (v : Value) (n : Nat) (xs : List Value) (hs : a.eval s = v) (hown : w.ownsRow base e size v n xs)
    (B : Nat) (A : Option Addr) (m c : Nat) (news : List Value) (hx : a.eval x = .slice A m c) (hl : news.length = m * size) (hr : Rd w B A news) (h1 : ∀ u ∈ news, u.oneCell' = true)
    (h63 : n + m ≤ maxLen) (hbytes : (n + m) * bytes ≤ 140737488355328) (hbase : base ≤ w.heap.size)
    (h : ∀ A' c' w', n + m ≤ c' → c' ≤ maxLen → w'.ownsRow base e size (.slice A' (n + m) c') (n + m) (xs ++ news) → w.grownBy w' v.ownBlock →
      (Value.ownBlock (.slice A' (n + m) c') = v.ownBlock ∨ Value.ownBlock (.slice A' (n + m) c') = some w.heap.size) → wpList P ops Q rest (a.put o.dst (.slice A' (n + m) c')) w') : wpList P ops Q (o :: rest) a w :=
  wpList_append_rd w hgd s x t ho base e i z size bytes ht hi hz hsize hby hzs hsz v n xs hs hown B A m c news hx hl hr h1 h63 hbytes hbase fun v' w' h2 h3 h4 => by
    obtain ⟨A', c', rfl, g1, g2⟩ := own_form h2
    exact h A' c' w' g1 g2 h2 h3 h4
/-- a row stands where a row of another type has grown -/
theorem own_beside {W W' : World} {b b' s s' n n' : Nat} {e e' : TypeId} {v v' : Value} {xs xs' : List Value} (h : W.ownsRow b e s v n xs) (h2 : W.ownsRow b' e' s' v' n' xs') (hne : e ≠ e') (hg : W.grownBy W' v'.ownBlock) : W'.ownsRow b e s v n xs := by
  refine ⟨h.1, ?_⟩
  rcases h.2 with h0 | ⟨g, cap, cur, rfl, hb, hh, r⟩
  · exact .inl h0
  · refine .inr ⟨g, cap, cur, rfl, hb, ?_, r⟩
    rw [hg.block g (Array.getElem?_eq_some_iff.1 hh).1, hh]
    intro hq
    rcases h2.2 with ⟨rfl, _⟩ | ⟨g2, cap2, cur2, rfl, hb2, hh2, r2⟩
    · cases hq
    · have : g = g2 := by simpa [Value.ownBlock] using hq
      subst this
      rw [hh] at hh2
      injection hh2 with hh2
      injection hh2 with _ h3
      exact hne h3
/-- rows of bytes stand where the values tell -/
def RowsAt (W : World) (B : Nat) (st : St) (vs : List Value) : Prop := ∀ (j : Nat) (v : Value), vs[j]? = some v → ∃ A c, v = .slice A (bsOf st ((j : Int) + 1)).length c ∧ W.ownsRow B 54 6 (.slice A (bsOf st ((j : Int) + 1)).length c) (bsOf st ((j : Int) + 1)).length (bys (bsOf st ((j : Int) + 1)))
def livesL (st : St) (k : Nat) : List Value := (List.range k).map fun j : Nat => .bool (livesB st ((j : Int) + 1))
theorem livesL_length (st : St) (k : Nat) : (livesL st k).length = k := by simp [livesL]
theorem livesL_succ (st : St) (k : Nat) : livesL st (k + 1) = livesL st k ++ [.bool (livesB st ((k : Int) + 1))] := by simp [livesL, List.range_succ]
/-- what all has gathered behind k rounds -/
structure AllAt (w W : World) (B : Nat) (st : St) (k k2 : Nat) (A : Option Addr) (c : Nat) (A' : Option Addr) (c' : Nat) (vs : List Value) : Prop where
  below : Below B w W
  lo : B ≤ w.heap.size
  len : vs.length = k
  out : W.ownsRow B 52 1 (.slice A k c) k vs
  lives : W.ownsRow B 4 1 (.slice A' k2 c') k2 (livesL st k2)
  rows : RowsAt W B st vs
section
variable {w W W' : World} {B g N k k2 : Nat} {st : St} {L : Lay} {A A' : Option Addr} {c c' : Nat} {vs : List Value}
theorem AllAt.hi (h : AllAt w W B st k k2 A c A' c' vs) : B ≤ W.heap.size := Nat.le_trans h.lo h.below.size
theorem AllAt.after (h : AllAt w W B st k k2 A c A' c' vs) (hb : Below W.heap.size W W') : AllAt w W' B st k k2 A c A' c' vs :=
  ⟨h.below.trans (hb.mono h.hi), h.lo, h.len, own_below_size h.out hb, own_below_size h.lives hb, fun j v hv => by
    obtain ⟨X, x, rfl, ho⟩ := h.rows j v hv
    exact ⟨X, x, rfl, own_below_size ho hb⟩⟩
theorem AllAt.alloc (h : AllAt w W B st k k2 A c A' c' vs) (o : Obj) : AllAt w (W.alloc o) B st k k2 A c A' c' vs := h.after ((Below.refl _ _).alloc (Nat.le_refl _) _)
theorem own_edge {W W' : World} {b e s n : Nat} {v : Value} {xs : List Value} (h : W.ownsRow b e s v n xs) (hg : W.grownBy W' v.ownBlock) (hB : b ≤ W.heap.size) : Below b W W' :=
  ⟨hg.os, hg.tape, hg.output, hg.size, fun q hq => by
    refine hg.block q (by omega) fun e => ?_
    rcases h.2 with ⟨rfl, _⟩ | ⟨g2, cap2, cur2, rfl, hb2, hh2, r2⟩
    · cases e
    · have : q = g2 := by simpa [Value.ownBlock] using e
      omega⟩
theorem AllAt.grow (h : AllAt w W B st k k2 A c A' c' vs) {v : Value} {A2 : Option Addr} {c2 : Nat} (hv : ∃ X x, v = .slice X (bsOf st ((k : Int) + 1)).length x ∧ W.ownsRow B 54 6 (.slice X (bsOf st ((k : Int) + 1)).length x) (bsOf st ((k : Int) + 1)).length (bys (bsOf st ((k : Int) + 1))))
    (ho : W'.ownsRow B 52 1 (.slice A2 (k + 1) c2) (k + 1) (vs ++ [v])) (hg : W.grownBy W' (Value.slice A k c).ownBlock) : AllAt w W' B st (k + 1) k2 A2 c2 A' c' (vs ++ [v]) :=
  ⟨h.below.trans (own_edge h.out hg h.hi), h.lo, by simp [h.len], ho, own_beside h.lives h.out (by decide) hg, fun j u hu => by
    by_cases hj : j < vs.length
    · rw [List.getElem?_append_left hj] at hu
      obtain ⟨X, x, rfl, hr⟩ := h.rows j u hu
      exact ⟨X, x, rfl, own_beside hr h.out (by decide) hg⟩
    · rw [List.getElem?_append_right (by omega)] at hu
      obtain rfl : j = k := by
        have := (List.getElem?_eq_some_iff.1 hu).1
        simp at this
        have := h.len
        omega
      rw [h.len] at hu
      simp at hu
      subst hu
      obtain ⟨X, x, rfl, hr⟩ := hv
      exact ⟨X, x, rfl, own_beside hr h.out (by decide) hg⟩⟩
theorem AllAt.growL (h : AllAt w W B st k k2 A c A' c' vs) {A2 : Option Addr} {c2 : Nat}
    (ho : W'.ownsRow B 4 1 (.slice A2 (k2 + 1) c2) (k2 + 1) (livesL st k2 ++ [.bool (livesB st ((k2 : Int) + 1))])) (hg : W.grownBy W' (Value.slice A' k2 c').ownBlock) : AllAt w W' B st k (k2 + 1) A c A2 c2 vs :=
  ⟨h.below.trans (own_edge h.lives hg h.hi), h.lo, h.len, own_beside h.out h.lives (by decide) hg, by rw [livesL_succ]; exact ho, fun j u hu => by
    obtain ⟨X, x, rfl, hr⟩ := h.rows j u hu
    exact ⟨X, x, rfl, own_beside hr h.lives (by decide) hg⟩⟩
theorem AllAt.new (w : World) (st : St) : AllAt w ((w.alloc (.cells #[] 52)).alloc (.cells #[] 4)) w.heap.size st 0 0 (some ⟨w.heap.size, 0, none⟩) 0 (some ⟨w.heap.size + 1, 0, none⟩) 0 [] := by
  have e1 := heap_alloc_new w (.cells #[] 52)
  have e2 := heap_alloc_new (w.alloc (.cells #[] 52)) (.cells #[] 4)
  rw [World.size_alloc] at e2
  have b2 : Below (w.alloc (.cells #[] 52)).heap.size (w.alloc (.cells #[] 52)) ((w.alloc (.cells #[] 52)).alloc (.cells #[] 4)) := (Below.refl _ _).alloc (Nat.le_refl _) _
  exact ⟨((Below.refl _ _).alloc (Nat.le_refl _) _).alloc (by simp) _, Nat.le_refl _, rfl,
    ⟨rfl, .inr ⟨_, 0, #[], rfl, Nat.le_refl _, (b2.block _ (by simp)).trans e1, Nat.le_refl _, Nat.zero_le _, rfl, rfl⟩⟩,
    ⟨rfl, .inr ⟨_, 0, #[], rfl, Nat.le_succ _, e2, Nat.le_refl _, Nat.zero_le _, rfl, rfl⟩⟩, fun j v hv => by simp at hv⟩
theorem rd_lit (W : World) (u : Value) (t : TypeId) (ht : t ≠ 0 := by decide) : Rd (W.alloc (.cells #[u] t)) (W.heap.size + 1) (some ⟨W.heap.size, 0, none⟩) [u] := fun _ =>
  ⟨_, rfl, by simp, fun j v hj => by
    have h := heap_alloc_new W (.cells #[u] t)
    rw [add_flat]
    have := Go.Joins.cell_of_block h j
    rw [this]
    simpa using hj⟩
set_option maxRecDepth 20000 in
set_option maxHeartbeats 6400000 in
theorem all_any (h : Sto w B g N st L) :
    Calls Tryd.prog 26 #[.pointer (some ⟨g, 0, none⟩)] w fun e w' => ∃ A c A' c' vs, e = .returned (.tuple #[.slice A 12 c, .slice A' 12 c']) ∧ AllAt w w' w.heap.size st 12 12 A c A' c' vs := by
  obtain ⟨i5, hi5, hz50, hz51, hz52⟩ := info_parts info52
  obtain ⟨i4, hi4, hz40, hz41, hz42⟩ := info_parts info4
  have HS := Lib.hid h
  clear h
  have HN := Lib.hid (AllAt.new w st)
  go_enter Tryd.func26, Tryd.ntmps26
  go_wp2_with fail
  go_loopw [4, 5, 6] (fun t4 t5 t6 wr => ∃ (k : Nat) (A A' : Option Addr) (c c' : Nat) (vs : List Value), k ≤ 12 ∧ t4 = .slice A k c ∧ t5 = .slice A' k c' ∧ t6 = .int .i64 (k + 1) ∧ AllAt w wr w.heap.size st k k A c A' c' vs) (fun _ _ t6 _ => 13 - (intOf t6).toNat)
  case atStart => exact ⟨0, _, _, 0, 0, [], by omega, rfl, rfl, rfl, HN.out⟩
  case round =>
    clear HN
    obtain ⟨k, A, A', c, c', vs, hk, rfl, rfl, rfl, hw⟩ := hrel
    have H := Lib.hid hw
    clear hw
    by_cases hlt : k < 12
    · go_wp2_with (first
        | (go_at_call 66; refine (bytes_any (HS.out.below H.out.below) ((k : Int) + 1) (by omega) (by omega)).mono ?_; rintro e w1 ⟨X, x, E, rfl, hown, hb⟩; have HR := Lib.hid hown; have H1 := Lib.hid (H.out.after hb); have HB := Lib.hid (own_base hown H.out.hi); clear hown hb)
        | (go_at_call 27; refine (lives_any (HS.out.below H3.out.below) ((k : Int) + 1) (by omega) (by omega)).mono ?_; rintro e w4 ⟨rfl, rfl⟩)
        | (at_builtin; refine wpList_append_rs _ rfl (.tmp 21) (.tmp 23) 48 rfl w.heap.size 52 i5 _ 1 24 Tryd.underlying48 hi5 hz50 hz51 hz52 rfl (by omega) (.slice A k c) k vs rfl (H1.out.alloc _).out _ (some ⟨_, 0, none⟩) 1 1 [.slice X _ x] rfl rfl (rd_lit _ _ _) (by simp [Value.oneCell']) (by simp only [maxLen]; omega) (by omega) (H1.out.alloc _).hi ?_; intro A3 c3 w3 _ _ hown hgrow hob; have H3 := Lib.hid ((H1.out.alloc _).grow ⟨_, _, rfl, own_below_size HB.out ((Below.refl _ _).alloc (Nat.le_refl _) _)⟩ hown hgrow); clear hown hgrow hob)
        | (at_builtin; refine wpList_append_rs _ rfl (.tmp 25) (.tmp 29) 49 rfl w.heap.size 4 i4 _ 1 1 Tryd.underlying49 hi4 hz40 hz41 hz42 rfl (by omega) (.slice A' k c') k (livesL st k) rfl (H3.out.alloc _).lives _ (some ⟨_, 0, none⟩) 1 1 [.bool _] rfl rfl (rd_lit _ _ _) (by simp [Value.oneCell']) (by simp only [maxLen]; omega) (by omega) (H3.out.alloc _).hi ?_; intro A5 c5 w5 _ _ hown hgrow hob; have H5 := Lib.hid ((H3.out.alloc _).growL hown hgrow); clear hown hgrow hob))
      go_roundw
      case rel => exact ⟨k + 1, _, _, _, _, _, by omega, rfl, rfl, by go_num, H5.out⟩
      case measure => simp [intOf]; omega
    · obtain rfl : k = 12 := by omega
      go_wp2_with fail
      go_ret2
      exact ⟨_, _, _, _, _, rfl, H.out⟩
end
end Go.Proofs.YtejhphnlickjlaaDoor.bl
namespace Go.Proofs.YtejhphnlickjlaaDoor.bl
open Go.RowKit
open M ty
set_option linter.unusedVariables false
theorem bsOf_at (st : St) (j : Nat) : bsOf st ((j : Int) + 1) = bsAt st j := by
  unfold bsOf bsAt
  rw [show ((j : Int) + 1 - 1).toNat = j by omega]
  split
  · rfl
  · rename_i h
    rw [List.getElem?_eq_none (by omega)]
    rfl
theorem lives_at (st : St) (j : Nat) : livesB st ((j : Int) + 1) = livesAt st j := by
  unfold livesB livesAt
  rw [show ((j : Int) + 1 - 1).toNat = j by omega]
  by_cases h : j < st.bl.length
  · rw [decide_eq_true (by omega)]; rfl
  · rw [List.getElem?_eq_none (by omega)]
    simp
/-- a row of bytes -/
def RowB (W : World) (B0 : Nat) (X : Option Addr) (l : List By) : Prop := 0 < l.length → ∃ x, X = some ⟨x, 0, none⟩ ∧ B0 ≤ x ∧ x < W.heap.size ∧ BytesAt W x 0 l
/-- what all has told stands from block B0 on -/
structure Told (W : World) (B0 a a' : Nat) (st : St) : Prop where
  la : B0 ≤ a ∧ a < W.heap.size
  la' : B0 ≤ a' ∧ a' < W.heap.size
  row : ∀ j, j < 12 → ∃ X c, W.cell? ⟨a, j, none⟩ = some (.slice X (bsAt st j).length c) ∧ RowB W B0 X (bsAt st j)
  lives : ∀ j, j < 12 → W.cell? ⟨a', j, none⟩ = some (.bool (livesAt st j))
section
variable {w W W' : World} {B B0 g N a a' : Nat} {st : St} {L : Lay} {l : List By} {X : Option Addr}
theorem cell_kept {x : Nat} (h : W'.heap[x]? = W.heap[x]?) (j : Nat) : W'.cell? ⟨x, j, none⟩ = W.cell? ⟨x, j, none⟩ := by
  unfold World.cell?
  simp only [h]
theorem RowB.keep (h : RowB W B0 X l) (hk : ∀ q, B0 ≤ q → q < W.heap.size → W'.heap[q]? = W.heap[q]?) (hs : W.heap.size ≤ W'.heap.size) : RowB W' B0 X l := fun h0 => by
  obtain ⟨x, rfl, h1, h2, h3⟩ := h h0
  refine ⟨x, rfl, h1, by omega, fun i b hb => ?_⟩
  obtain ⟨c0, c1, c2, c3, c4, c5⟩ := h3 i b hb
  have e := cell_kept (hk x h1 h2)
  exact ⟨(e _).trans c0, (e _).trans c1, (e _).trans c2, (e _).trans c3, (e _).trans c4, (e _).trans c5⟩
theorem RowB.after (h : RowB W B0 X l) (hb : Below W.heap.size W W') : RowB W' B0 X l := h.keep (fun q _ hq => hb.block q hq) hb.size
theorem Told.keep (h : Told W B0 a a' st) (hk : ∀ q, B0 ≤ q → q < W.heap.size → W'.heap[q]? = W.heap[q]?) (hs : W.heap.size ≤ W'.heap.size) : Told W' B0 a a' st := by
  obtain ⟨l1, l2⟩ := h.la
  obtain ⟨m1, m2⟩ := h.la'
  refine ⟨⟨l1, by omega⟩, ⟨m1, by omega⟩, fun j hj => ?_, fun j hj => (cell_kept (hk _ m1 m2) _).trans (h.lives j hj)⟩
  obtain ⟨X, c, h1, h2⟩ := h.row j hj
  exact ⟨X, c, (cell_kept (hk _ l1 l2) _).trans h1, h2.keep hk hs⟩
theorem Told.after (h : Told W B0 a a' st) (hb : Below W.heap.size W W') : Told W' B0 a a' st := h.keep (fun q _ hq => hb.block q hq) hb.size
theorem Told.wrote {n : Nat} (h : Told W B0 a a' st) (hm : ∀ q, Mine g L n q → q < B0) (hf : Fr W W' g L n) : Told W' B0 a a' st :=
  h.keep (fun q hq hl => hf.block q hl (fun e => by have := hm q e; omega)) hf.size
theorem AllAt.told {A A' : Option Addr} {c c' : Nat} {vs : List Value} (h : AllAt w W B st 12 12 A c A' c' vs) : ∃ a a', A = some ⟨a, 0, none⟩ ∧ A' = some ⟨a', 0, none⟩ ∧ Told W B a a' st := by
  obtain ⟨-, -, hlen, ho, hl, hr⟩ := h
  have ho2 := ho
  have hl2 := hl
  rcases ho.2 with ⟨_, h0⟩ | ⟨a, cap, cur, hv, hb, hh, _⟩
  · exact absurd h0 (by decide)
  · rcases hl.2 with ⟨_, h0⟩ | ⟨a', cap', cur', hv', hb', hh', _⟩
    · exact absurd h0 (by decide)
    · injection hv with e1 _ _
      injection hv' with e2 _ _
      subst e1 e2
      refine ⟨a, a', rfl, rfl, ⟨hb, (Array.getElem?_eq_some_iff.1 hh).1⟩, ⟨hb', (Array.getElem?_eq_some_iff.1 hh').1⟩, fun j hj => ?_, fun j hj => ?_⟩
      · have hj' : j < vs.length := by rw [hlen]; exact hj
        have hx : vs[j]? = some vs[j] := List.getElem?_eq_getElem hj'
        have hcell := ho2.cells (g := a) rfl j _ hx
        rw [add_flat] at hcell
        obtain ⟨X, x, e, hw⟩ := hr j _ hx
        rw [e] at hcell
        rw [bsOf_at] at hcell hw
        refine ⟨X, x, hcell, fun h0 => ?_⟩
        have hw2 := hw
        rcases hw.2 with ⟨_, h1⟩ | ⟨y, cap2, cur2, hv2, hb2, hh2, _⟩
        · omega
        · injection hv2 with e2 _ _
          subst e2
          refine ⟨y, rfl, hb2, (Array.getElem?_eq_some_iff.1 hh2).1, fun i b hi => ?_⟩
          have hc : ∀ r, r < 6 → W.cell? ⟨y, 0 + i * 6 + r, none⟩ = b.cells[r]? := fun r hr => by
            have e := bys_get _ i r b hi hr
            have hu : r < b.cells.length := by simpa [By.cells] using hr
            rw [List.getElem?_eq_getElem hu] at e
            have := hw2.cells (g := y) rfl _ _ e
            rw [add_flat] at this
            rw [List.getElem?_eq_getElem hu, ← this]
            congr 2
            omega
          exact ⟨hc 0 (by omega), hc 1 (by omega), hc 2 (by omega), hc 3 (by omega), hc 4 (by omega), hc 5 (by omega)⟩
      · have hx : (livesL st 12)[j]? = some (.bool (livesAt st j)) := by
          unfold livesL
          simp [List.getElem?_range hj, lives_at]
        have hcell := hl2.cells (g := a') rfl j _ hx
        rw [add_flat] at hcell
        exact hcell
end
end Go.Proofs.YtejhphnlickjlaaDoor.bl
