/-
  Contracts of slices.Clone over gaps and of take (package gap). No condition but the ranges that Check pays.
-/
import Derived.Test.YtinjfmcmjhehoaaGapC
import Derived.WalkSpells
namespace Go.Proofs.Ytinjfmcmjhehoaa.gaps
open Go.ChangeShapes Go.WideShapes Go.ChangeAt Go.RowKit
open M G
set_option linter.unusedVariables false
theorem cv {B : Nat} {W w' : World} {p : Addr} {v : Value} (hb : Below B W w') (h : W.cell? p = some v) (hB : p.block < B) : w'.cell? p = some v := (hb.cell hB).trans h
theorem ca {W : World} {p : Addr} {v : Value} (h : W.cell? p = some v) (o : Obj) : (W.alloc o).cell? p = some v := (World.cell?_alloc_lt W o p (World.block_lt_of_cell? W _ h)).trans h
theorem cn (W : World) (cs : Array Value) (t : TypeId) (j : Nat) : (W.alloc (.cells cs t)).cell? ⟨W.heap.size, j, none⟩ = cs[j]? := cell_of_row _ _ _ _ _ _ (heap_alloc_new W _)
theorem rd_new (W : World) (x y : Int) : Rd (W.alloc (.cells #[.int .i64 x, .int .i64 y] 47)) (W.heap.size + 1) (some ⟨W.heap.size, 0, none⟩) (cells [(x, y)]) := fun _ =>
  ⟨_, rfl, by simp, fun j u hu => by
    rw [show (⟨W.heap.size, 0, none⟩ : Addr).add j = ⟨W.heap.size, j, none⟩ from by unfold Addr.add; split <;> simp_all, cn]
    simpa [cells] using hu⟩
theorem bcellp {B : Nat} {W w1 : World} (hb : Below B W w1) : (∀ p : Addr, p.block < B → w1.cell? p = W.cell? p) ∧ (∀ p : Addr, p.block < B → w1.frozen? p = W.frozen? p) :=
  ⟨fun p h => hb.cell h, fun p h => hb.frozen h⟩
theorem info47 : (Try.prog.info? 47).map (fun i => (i.zero, i.size, i.bytes)) = some (some (.agg #[.int .i64 0, .int .i64 0]), 2, 16) := by kernel_rfl
theorem own_empty (w : World) (B : Nat) (hB : B ≤ w.heap.size) : (w.alloc (.cells #[] 47)).ownsRow B 47 2 (.slice (some ⟨w.heap.size, 0, none⟩) 0 0) 0 [] :=
  World.ownsRow_lit (size := 2) w #[] 0 hB (by simp [maxLen]) rfl
theorem clone_any (A : Option Addr) (n c : Nat) (l : List Gap) (w : World) (hl : l.length = n) (hn : n * 16 ≤ 140737488355328) (hA : Rd w w.heap.size A (cells l)) :
    Calls Try.prog 67 #[.slice A n c] w fun e w' => ∃ v, e = .returned v ∧ w'.ownsRow w.heap.size 47 2 v n (cells l) ∧ Below w.heap.size w w' := by
  obtain ⟨i0, hi, hz0, hz1, hz2⟩ := info_parts info47
  have Hl := Lib.hid hl
  have HA := Lib.hid hA
  clear hl hA
  rcases A with _ | ad
  · have Hnil : Hid (l = []) := Lib.hid (by
      rcases List.eq_nil_or_concat l with h | ⟨a, x, h⟩
      · exact h
      · obtain ⟨_, h, _⟩ := HA.out (cells_ne (by rw [h]; simp))
        cases h)
    have Hn0 : Hid (n = 0) := Lib.hid (by rw [← Hl.out, Hnil.out]; rfl)
    have heq := fun (W : World) => Lib.run_eql_slice_nil (P := Try.prog) W 39 47 none n c 0 0 Try.underlying39
    go_enter Try.func67, Try.ntmps67
    go_wp2_with fail
    go_ret
    refine ⟨_, rfl, ?_, Below.refl _ _⟩
    rw [Hn0.out, Hnil.out]
    exact World.ownsRow_nil _ _ _ _
  · have heq := fun (W : World) => Lib.run_eql_slice_nil (P := Try.prog) W 39 47 (some ad) n c 0 0 Try.underlying39
    go_enter Try.func67, Try.ntmps67
    go_wp2_with (at_builtin; refine wpList_append_rd _ rfl (.tmp 5) (.tmp 6) 39 rfl w.heap.size 47 i0 _ 2 16 Try.underlying39 hi hz0 hz1 hz2 rfl (by omega) (.slice (some ⟨w.heap.size, 0, none⟩) 0 0) 0 [] rfl (own_empty w _ (Nat.le_refl _)) w.heap.size (some ad) n c (cells l) rfl (by rw [cells_length, Hl.out]) (HA.out.alloc (Nat.le_refl _) _) (cells_one l) (by simp only [maxLen]; omega) (by omega) (by simp) ?_; intro v1 w1 hown1 hg1 hat1)
    go_ret
    refine ⟨v1, rfl, by simpa using hown1, ((Below.refl _ _).alloc (Nat.le_refl _) _).grown hg1 (by simp) ?_⟩
    intro k hk
    have : w.heap.size = k := by simpa [Value.ownBlock] using hk
    omega
theorem take_no (A : Option Addr) (n c : Nat) (l : List Gap) (m : Int) (w : World) (hl : l.length = n) (hn : n ≤ 4096) (hA : Rd w w.heap.size A (cells l)) (hf : first l m = n) :
    Calls Try.prog 57 #[.slice A n c, .int .i64 m] w fun e w' => e = .returned (.tuple #[.slice none 0 0, .int .i64 (-1)]) ∧ Below w.heap.size w w' := by
  have HA := Lib.hid hA
  have HI : Hid (∀ W : World, Below w.heap.size w W → W.cell? ⟨w.heap.size, 0, none⟩ = some (.int .i64 m) → w.heap.size < W.heap.size → Calls Try.prog 68 #[.slice A n c, .func (.func 69) #[] #[.pointer (some ⟨w.heap.size, 0, none⟩)]] W
      fun e w' => e = .returned (.int .i64 (-1)) ∧ Below W.heap.size W w') := Lib.hid (by
    intro W hb hc hlt
    have := index_69 (.pointer (some ⟨w.heap.size, 0, none⟩)) (fun g => decide (m ≤ g.2)) A n c l W hl (by simp only [maxLen]; omega) ((HA.out.below hb).more (by have := hb.size; omega))
      (fun W' x1 x2 hb' _ => close_take w.heap.size m x1 x2 W' (by have := hb'.size; omega) (by rw [hb'.cell (p := ⟨w.heap.size, 0, none⟩) hlt]; exact hc))
    have hf' : List.findIdx (fun g : Gap => decide (m ≤ g.2)) l = n := hf
    rw [hf', if_neg (by omega)] at this
    exact this)
  clear hl hA hf
  go_enter Try.func57, Try.ntmps57
  go_wp2_with (go_at_call 68; refine (HI.out _ ((Below.refl _ _).alloc (Nat.le_refl _) _) (by simp) (by simp)).mono ?_; rintro e w1 ⟨rfl, hb1⟩)
  go_ret2
  exact ⟨rfl, ((Below.refl _ _).alloc (Nat.le_refl _) _).trans (hb1.mono (by simp))⟩
set_option maxHeartbeats 400000 in
theorem take_yes (A : Option Addr) (n c : Nat) (l : List Gap) (m : Int) (w : World) (hl : l.length = n) (hn : n ≤ 4096) (hc : n ≤ c) (hA : Rd w w.heap.size A (cells l)) (k : Nat) (hf : first l m = k) (hk : k < n) (x1 x2 : Int) (hx : l[k]? = some (x1, x2))
     (hm : 0 < m) (hm2 : m ≤ 16777216) (b1 : 0 ≤ x1) (b2 : x1 ≤ 16777216) (b3 : x2 ≤ 16777216) :
    Calls Try.prog 57 #[.slice A n c, .int .i64 m] w fun e w' => ∃ v, e = .returned (.tuple #[v, .int .i64 x1]) ∧ w'.ownsRow w.heap.size 47 2 v (takeL l m k).length (cells (takeL l m k)) ∧ Below w.heap.size w w' := by
  have HI : Hid (∀ W : World, Below w.heap.size w W → W.cell? ⟨w.heap.size, 0, none⟩ = some (.int .i64 m) → w.heap.size < W.heap.size → Calls Try.prog 68 #[.slice A n c, .func (.func 69) #[] #[.pointer (some ⟨w.heap.size, 0, none⟩)]] W
      fun e w' => e = .returned (.int .i64 k) ∧ Below W.heap.size W w') := Lib.hid (by
    intro W hb hc hlt
    have := index_69 (.pointer (some ⟨w.heap.size, 0, none⟩)) (fun g => decide (m ≤ g.2)) A n c l W hl (by simp only [maxLen]; omega) ((hA.below hb).more (by have := hb.size; omega))
      (fun W' x1 x2 hb' _ => close_take w.heap.size m x1 x2 W' (by have := hb'.size; omega) (by rw [hb'.cell (p := ⟨w.heap.size, 0, none⟩) hlt]; exact hc))
    have hf' : List.findIdx (fun g : Gap => decide (m ≤ g.2)) l = k := hf
    rw [hf', if_pos hk] at this
    exact this)
  obtain ⟨ad, q, y1, y2, rfl, hxk, hp, hqb, a1, a2⟩ := rd_at hA (k := k) (by rw [hl]; exact hk)
  have hxy : x1 = y1 ∧ x2 = y2 := by rw [hx] at hxk; injection hxk with h; injection h with h1 h2; exact ⟨h1, h2⟩
  obtain ⟨rfl, rfl⟩ := hxy
  have HT : Hid (∀ W : World, Below w.heap.size w W → Rd W W.heap.size (some ad) (cells (l.take k))) := Lib.hid (fun W hb => by
    rw [cells_take]; exact ((hA.below hb).take _).more (by have := hb.size; omega))
  have HD : Hid (∀ W : World, Below w.heap.size w W → Rd W W.heap.size (if c = k + 1 then some ad else some (ad.add ((k + 1) * 2))) (cells (l.drop (k + 1)))) := Lib.hid (fun W hb => by
    split
    · rw [List.drop_eq_nil_of_le (by omega)]; exact Rd.nil
    · rw [cells_drop]; exact ((hA.below hb).drop _).more (by have := hb.size; omega))
  have HtL : Hid ((l.take k).length = k) := Lib.hid (by rw [List.length_take, hl]; omega)
  have HdL : Hid ((l.drop (k + 1)).length = n - (k + 1)) := Lib.hid (by rw [List.length_drop, hl])
  have Hlk : Hid (l.getD k (0, 0) = (x1, x2)) := Lib.hid (by simp [List.getD, hx])
  obtain ⟨i0, hi, hz0, hz1, hz2⟩ := info_parts info47
  have Hfx : Hid (m ≤ x2) := Lib.hid (by
    have h1 : l.findIdx (fun g : Gap => decide (m ≤ g.2)) < l.length := by have : l.findIdx (fun g : Gap => decide (m ≤ g.2)) = k := hf; omega
    have h2 := List.findIdx_getElem (p := fun g : Gap => decide (m ≤ g.2)) (xs := l) (w := h1)
    have h3 : l[l.findIdx (fun g : Gap => decide (m ≤ g.2))]'h1 = (x1, x2) := by
      have : l.findIdx (fun g : Gap => decide (m ≤ g.2)) = k := hf
      simp only [this]
      exact (List.getElem?_eq_some_iff.1 hx).2
    rw [h3] at h2
    simpa using h2)
  have Hbound : Hid ((takeL l m k).length ≤ 4097) := Lib.hid (by
    unfold takeL left
    rw [List.length_append, List.length_append, List.length_take, List.length_drop, hl]
    split <;> simp <;> omega)
  clear hl hA hf hx hxk
  by_cases hgt : m < x2
  · have Hfin : Hid (∀ (W : World) (v : Value), W.ownsRow w.heap.size 47 2 v (k + 1 + (n - (k + 1))) ((cells (l.take k) ++ cells [(x1 + m, x2 - m)]) ++ cells (l.drop (k + 1))) → W.ownsRow w.heap.size 47 2 v (takeL l m k).length (cells (takeL l m k))) := Lib.hid (fun W v h => by
      have e : takeL l m k = (l.take k ++ [(x1 + m, x2 - m)]) ++ l.drop (k + 1) := by
        unfold takeL left
        rw [Hlk.out]
        simp only
        rw [if_pos hgt]
      rw [e, cells_append, cells_append]
      have e2 : ((l.take k ++ [(x1 + m, x2 - m)]) ++ l.drop (k + 1)).length = k + 1 + (n - (k + 1)) := by
        rw [List.length_append, List.length_append, HtL.out, HdL.out]; rfl
      rw [e2]
      exact h)
    go_enter Try.func57, Try.ntmps57
    go_wp2_with (first
      | (go_at_call 68; refine (HI.out _ ((Below.refl _ _).alloc (Nat.le_refl _) _) (by simp) (by simp)).mono ?_; rintro e w1 ⟨rfl, hb1⟩; have hs1 := hb1.size; simp at hs1; have m1 : w1.cell? ⟨w.heap.size, 0, none⟩ = some (.int .i64 m) := cv hb1 (cn w #[.int .i64 m] 3 0) (by simp); have q1 := cv hb1 (ca a1 _) (by simp; omega); have q2 := cv hb1 (ca a2 _) (by simp; omega))
      | (go_at_call 67; refine (clone_any (some ad) k k (l.take k) _ HtL.out (by omega) (HT.out _ ((((Below.refl _ _).alloc (Nat.le_refl _) _).trans (hb1.mono (by simp))).alloc (by omega) _))).mono ?_; rintro e w2 ⟨v2, rfl, hown2, hb2⟩; have hs2 := hb2.size; simp at hs2; have m2 : w2.cell? ⟨w.heap.size, 0, none⟩ = some (.int .i64 m) := cv hb2 (ca m1 _) (by simp; omega); have g1 : w2.cell? ⟨w1.heap.size, 0, none⟩ = some (.int .i64 x1) := cv hb2 (cn w1 #[.int .i64 x1, .int .i64 x2] 47 0) (by simp); have g2 : w2.cell? ⟨w1.heap.size, 1, none⟩ = some (.int .i64 x2) := cv hb2 (cn w1 #[.int .i64 x1, .int .i64 x2] 47 1) (by simp))
      | (at_builtin; refine wpList_append_rd _ rfl (.tmp 27) (.tmp 37) 39 rfl w.heap.size 47 i0 _ 2 16 Try.underlying39 hi hz0 hz1 hz2 rfl (by omega) v2 k (cells (l.take k)) rfl ((own_base hown2 (by simp; omega)).alloc _) (w2.heap.size + 1) (some ⟨w2.heap.size, 0, none⟩) 1 1 (cells [(x1 + m, x2 - m)]) rfl rfl (rd_new _ _ _) (cells_one _) (by simp only [maxLen]; omega) (by omega) (by simp; omega) ?_; intro v3 w3 hown3 hg3 hat3))
    have hs3 := hg3.size
    simp at hs3
    have hv2 := hown2.lt
    simp at hv2
    have bw3 : Below (w1.heap.size + 1) (w2.alloc (.cells #[.int .i64 (x1 + m), .int .i64 (x2 - m)] 47)) w3 := (Below.refl _ _).grown hg3 (by simp; omega) (fun g hg => (hv2 g hg).1)
    have u1 : w3.cell? ⟨w1.heap.size, 0, none⟩ = some (.int .i64 x1) := cv bw3 (ca g1 _) (by simp)
    have hv3 : ∀ g, v3.ownBlock = some g → w1.heap.size + 1 ≤ g := fun g hg => by
      rcases hat3 with e | e
      · rw [e] at hg; exact (hv2 g hg).1
      · rw [e] at hg; injection hg with hg; simp at hg; omega
    have Hv3 := Lib.hid hv3
    have bwA : Below w.heap.size w w3 := ((((((Below.refl _ _).alloc (Nat.le_refl _) _).trans (hb1.mono (by simp))).alloc (by omega) _).trans (hb2.mono (by simp; omega))).alloc (by omega) _).trans (bw3.mono (by omega))
    have HR := Lib.hid (HD.out _ bwA)
    have s1 : IntKind.i64.wrap ((k : Int) + 1) = (k : Int) + 1 := by rw [IntKind.wrap_i64]; omega
    have s2 : 0 ≤ (k : Int) + 1 := by omega
    have s3 : ((k : Int) + 1).toNat = k + 1 := by omega
    have s4 : (k : Int) + 1 ≤ (n : Int) := by omega
    clear hat3 hv2 hv3 g1 g2 m1 m2 q1 q2 a1 a2 hown2 hg3
    go_region_law (refine step_append_rd _ rfl (.tmp 39) (.tmp 43) 39 rfl w.heap.size 47 i0 _ 2 16 Try.underlying39 hi hz0 hz1 hz2 rfl (by omega) v3 (k + 1) (cells (l.take k) ++ cells [(x1 + m, x2 - m)]) (by simp [Act.eval, Act.put]) (by exact hown3) w3.heap.size (if c = k + 1 then some ad else some (ad.add ((k + 1) * 2))) (n - (k + 1)) (c - (k + 1)) (cells (l.drop (k + 1))) (by simp [Act.eval, Act.put]) (by rw [cells_length, HdL.out]) (by exact HR.out) (cells_one _) (by simp only [maxLen]; omega) (by omega) (by simp; omega) ?_; intro v4 w4 hown4 hg4 hat4; have u2 : w4.cell? ⟨w1.heap.size, 0, none⟩ = some (.int .i64 x1) := hg4.cell (show w3.drew.cell? ⟨w1.heap.size, 0, none⟩ = _ from u1) (fun e => by have h : w1.heap.size + 1 ≤ w1.heap.size := Hv3.out _ e.symm; omega))
    all_goals go_wp2
    all_goals go_ret2
    all_goals
      refine ⟨v4, rfl, Hfin.out _ _ hown4, ?_⟩
      first
        | exact bwA.grown hg4 (by omega) (fun g hg => by have := Hv3.out g hg; omega)
        | exact (bwA.drew).grown hg4 (by simp; omega) (fun g hg => by have := Hv3.out g hg; omega)
  · have Hfin : Hid (∀ (W : World) (v : Value), W.ownsRow w.heap.size 47 2 v (k + (n - (k + 1))) (cells (l.take k) ++ cells (l.drop (k + 1))) → W.ownsRow w.heap.size 47 2 v (takeL l m k).length (cells (takeL l m k))) := Lib.hid (fun W v h => by
      have e : takeL l m k = l.take k ++ l.drop (k + 1) := by
        unfold takeL left
        rw [Hlk.out]
        simp only
        rw [if_neg hgt, List.append_nil]
      rw [e, cells_append, List.length_append, HtL.out, HdL.out]
      exact h)
    go_enter Try.func57, Try.ntmps57
    go_wp2_with (first
      | (go_at_call 68; refine (HI.out _ ((Below.refl _ _).alloc (Nat.le_refl _) _) (by simp) (by simp)).mono ?_; rintro e w1 ⟨rfl, hb1⟩; have hs1 := hb1.size; simp at hs1; have m1 : w1.cell? ⟨w.heap.size, 0, none⟩ = some (.int .i64 m) := cv hb1 (cn w #[.int .i64 m] 3 0) (by simp); have q1 := cv hb1 (ca a1 _) (by simp; omega); have q2 := cv hb1 (ca a2 _) (by simp; omega))
      | (go_at_call 67; refine (clone_any (some ad) k k (l.take k) _ HtL.out (by omega) (HT.out _ ((((Below.refl _ _).alloc (Nat.le_refl _) _).trans (hb1.mono (by simp))).alloc (by omega) _))).mono ?_; rintro e w2 ⟨v2, rfl, hown2, hb2⟩; have hs2 := hb2.size; simp at hs2; have m2 : w2.cell? ⟨w.heap.size, 0, none⟩ = some (.int .i64 m) := cv hb2 (ca m1 _) (by simp; omega); have g1 : w2.cell? ⟨w1.heap.size, 0, none⟩ = some (.int .i64 x1) := cv hb2 (cn w1 #[.int .i64 x1, .int .i64 x2] 47 0) (by simp); have g2 : w2.cell? ⟨w1.heap.size, 1, none⟩ = some (.int .i64 x2) := cv hb2 (cn w1 #[.int .i64 x1, .int .i64 x2] 47 1) (by simp)))
    have hv2 := hown2.lt
    simp at hv2
    have Hv3 : Hid (∀ g, v2.ownBlock = some g → w1.heap.size + 1 ≤ g) := Lib.hid (fun g hg => (hv2 g hg).1)
    have u1 := g1
    have hw2 := own_base hown2 (base' := w.heap.size) (by simp; omega)
    have bwA : Below w.heap.size w w2 := ((((Below.refl _ _).alloc (Nat.le_refl _) _).trans (hb1.mono (by simp))).alloc (by omega) _).trans (hb2.mono (by simp; omega))
    have HR := Lib.hid (HD.out _ bwA)
    have s1 : IntKind.i64.wrap ((k : Int) + 1) = (k : Int) + 1 := by rw [IntKind.wrap_i64]; omega
    have s2 : 0 ≤ (k : Int) + 1 := by omega
    have s3 : ((k : Int) + 1).toNat = k + 1 := by omega
    have s4 : (k : Int) + 1 ≤ (n : Int) := by omega
    clear hv2 g1 g2 m1 m2 q1 q2 a1 a2 hown2
    go_region_law (refine step_append_rd _ rfl (.tmp 39) (.tmp 43) 39 rfl w.heap.size 47 i0 _ 2 16 Try.underlying39 hi hz0 hz1 hz2 rfl (by omega) v2 k (cells (l.take k)) (by simp [Act.eval, Act.put]) (by exact hw2) w2.heap.size (if c = k + 1 then some ad else some (ad.add ((k + 1) * 2))) (n - (k + 1)) (c - (k + 1)) (cells (l.drop (k + 1))) (by simp [Act.eval, Act.put]) (by rw [cells_length, HdL.out]) (by exact HR.out) (cells_one _) (by simp only [maxLen]; omega) (by omega) (by simp; omega) ?_; intro v4 w4 hown4 hg4 hat4; have u2 : w4.cell? ⟨w1.heap.size, 0, none⟩ = some (.int .i64 x1) := hg4.cell (show w2.drew.cell? ⟨w1.heap.size, 0, none⟩ = _ from u1) (fun e => by have h : w1.heap.size + 1 ≤ w1.heap.size := Hv3.out _ e.symm; omega))
    all_goals go_wp2
    all_goals go_ret2
    all_goals
      refine ⟨v4, rfl, Hfin.out _ _ hown4, ?_⟩
      first
        | exact bwA.grown hg4 (by omega) (fun g hg => by have := Hv3.out g hg; omega)
        | exact (bwA.drew).grown hg4 (by simp; omega) (fun g hg => by have := Hv3.out g hg; omega)
end Go.Proofs.Ytinjfmcmjhehoaa.gaps
