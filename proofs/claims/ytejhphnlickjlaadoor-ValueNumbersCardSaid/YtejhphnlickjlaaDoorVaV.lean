/-
  The contract of Unpack of the reference. Conditions: bytes lie in their bounds; lists stand in memory.
-/
import Derived.Test.YtejhphnlickjlaaDoorVaR
import Derived.Handy
namespace Go.Proofs.YtejhphnlickjlaaDoor.ty
open Go.ChangeShapes Go.WideShapes Go.RowKit
open M T W
set_option linter.unusedVariables false
def NumD (s : ByteArray) : Prop := ∀ n W, Calls Tryd.prog 47 #[.string s, .int .i64 n] W fun e w' => e = .returned (.agg #[.int .i64 1, .int .i64 (wrapT (T.nums s) n), .int .i64 0]) ∧ Below W.heap.size W w'
def Bit43 (s : ByteArray) (m : Int) : Prop := ∀ W, Calls Tryd.prog 43 #[.string s] W fun e w' => e = .returned (.int .i64 m) ∧ w' = W
section
variable {s : ByteArray} {w : World} {ad : Addr} {c : Nat} {x y z u m : Int}
set_option maxRecDepth 20000 in
set_option maxHeartbeats 1600000 in
theorem Unpack2_1 (hlt : ad.block < w.heap.size) (c0 : w.cell? ad = some (.int .u8 x)) (b0 : 0 ≤ x ∧ x ≤ 255) (HB : Hid (Bit43 s 8)) (HN : Hid (NumD s)) :
    Calls Tryd.prog 16 #[.string s, .slice (some ad) 1 c] w fun e w' => e = .returned (.tuple #[.agg #[.int .i64 1, .int .i64 (wrapT (T.nums s) (x + 256 * (0))), .int .i64 0], .int .i64 0]) ∧ Below w.heap.size w w' := by
  have HO := Lib.hid (Own.new w)
  have d0 : (w.alloc (.cells #[.int .i64 0, .int .i64 0, .int .i64 0] 24)).cell? ad = some (.int .u8 x) := (World.cell?_alloc_lt w _ _ (by exact hlt)).trans c0
  clear c0
  go_enter Tryd.func16, Tryd.ntmps16
  go_wp2_with (go_at_call 43; refine (HB.out _).mono ?_; rintro e w1 ⟨rfl, rfl⟩)
  refine wp_loop_rounds 2 ?_
  repeat any_goals (rw [rounds_succ]; go_wp2_with (go_at_call 47; refine (HN.out _ _).mono ?_; rintro e w2 ⟨rfl, hb2⟩; have h2 := HO.out.below hb2; have H2 := Lib.hid h2; obtain ⟨r0, r1, r2, f0, f1, f2⟩ := h2.cells; clear h2 hb2))
  try simp only [Exit.inBlock, Exit.then]
  refine bodyPost_ret (v := .tuple #[.agg #[.int .i64 1, .int .i64 (wrapT (T.nums s) (x + 256 * (0))), .int .i64 0], .int .i64 0]) (by rw [results_cell_tmp rfl]; go_simp; try (exact congrArg _ (by omega))) rfl ?_
  exact ⟨rfl, ((H2.out.1.setCell (Nat.le_refl _) _).setCell (Nat.le_refl _) _).setCell (Nat.le_refl _) _⟩
set_option maxRecDepth 20000 in
set_option maxHeartbeats 1600000 in
theorem Unpack2_2 (hlt : ad.block < w.heap.size) (c0 : w.cell? ad = some (.int .u8 x)) (b0 : 0 ≤ x ∧ x ≤ 255) (c1 : w.cell? ⟨ad.block, ad.off + 1, none⟩ = some (.int .u8 y)) (b1 : 0 ≤ y ∧ y ≤ 255) (HB : Hid (Bit43 s 16)) (HN : Hid (NumD s)) :
    Calls Tryd.prog 16 #[.string s, .slice (some ad) 2 c] w fun e w' => e = .returned (.tuple #[.agg #[.int .i64 1, .int .i64 (wrapT (T.nums s) (x + 256 * (y + 256 * (0)))), .int .i64 0], .int .i64 0]) ∧ Below w.heap.size w w' := by
  have HO := Lib.hid (Own.new w)
  have d0 : (w.alloc (.cells #[.int .i64 0, .int .i64 0, .int .i64 0] 24)).cell? ad = some (.int .u8 x) := (World.cell?_alloc_lt w _ _ (by exact hlt)).trans c0
  have d1 : (w.alloc (.cells #[.int .i64 0, .int .i64 0, .int .i64 0] 24)).cell? ⟨ad.block, ad.off + 1, none⟩ = some (.int .u8 y) := (World.cell?_alloc_lt w _ _ (by exact hlt)).trans c1
  clear c0 c1
  go_enter Tryd.func16, Tryd.ntmps16
  go_wp2_with (go_at_call 43; refine (HB.out _).mono ?_; rintro e w1 ⟨rfl, rfl⟩)
  refine wp_loop_rounds 3 ?_
  repeat any_goals (rw [rounds_succ]; go_wp2_with (go_at_call 47; refine (HN.out _ _).mono ?_; rintro e w2 ⟨rfl, hb2⟩; have h2 := HO.out.below hb2; have H2 := Lib.hid h2; obtain ⟨r0, r1, r2, f0, f1, f2⟩ := h2.cells; clear h2 hb2))
  try simp only [Exit.inBlock, Exit.then]
  refine bodyPost_ret (v := .tuple #[.agg #[.int .i64 1, .int .i64 (wrapT (T.nums s) (x + 256 * (y + 256 * (0)))), .int .i64 0], .int .i64 0]) (by rw [results_cell_tmp rfl]; go_simp; try (exact congrArg _ (by omega))) rfl ?_
  exact ⟨rfl, ((H2.out.1.setCell (Nat.le_refl _) _).setCell (Nat.le_refl _) _).setCell (Nat.le_refl _) _⟩
set_option maxRecDepth 20000 in
set_option maxHeartbeats 1600000 in
theorem Unpack2_4 (hlt : ad.block < w.heap.size) (c0 : w.cell? ad = some (.int .u8 x)) (b0 : 0 ≤ x ∧ x ≤ 255) (c1 : w.cell? ⟨ad.block, ad.off + 1, none⟩ = some (.int .u8 y)) (b1 : 0 ≤ y ∧ y ≤ 255) (c2 : w.cell? ⟨ad.block, ad.off + 2, none⟩ = some (.int .u8 z)) (b2 : 0 ≤ z ∧ z ≤ 255) (c3 : w.cell? ⟨ad.block, ad.off + 3, none⟩ = some (.int .u8 u)) (b3 : 0 ≤ u ∧ u ≤ 255) (HB : Hid (Bit43 s 32)) (HN : Hid (NumD s)) :
    Calls Tryd.prog 16 #[.string s, .slice (some ad) 4 c] w fun e w' => e = .returned (.tuple #[.agg #[.int .i64 1, .int .i64 (wrapT (T.nums s) (x + 256 * (y + 256 * (z + 256 * (u + 256 * (0)))))), .int .i64 0], .int .i64 0]) ∧ Below w.heap.size w w' := by
  have HO := Lib.hid (Own.new w)
  have d0 : (w.alloc (.cells #[.int .i64 0, .int .i64 0, .int .i64 0] 24)).cell? ad = some (.int .u8 x) := (World.cell?_alloc_lt w _ _ (by exact hlt)).trans c0
  have d1 : (w.alloc (.cells #[.int .i64 0, .int .i64 0, .int .i64 0] 24)).cell? ⟨ad.block, ad.off + 1, none⟩ = some (.int .u8 y) := (World.cell?_alloc_lt w _ _ (by exact hlt)).trans c1
  have d2 : (w.alloc (.cells #[.int .i64 0, .int .i64 0, .int .i64 0] 24)).cell? ⟨ad.block, ad.off + 2, none⟩ = some (.int .u8 z) := (World.cell?_alloc_lt w _ _ (by exact hlt)).trans c2
  have d3 : (w.alloc (.cells #[.int .i64 0, .int .i64 0, .int .i64 0] 24)).cell? ⟨ad.block, ad.off + 3, none⟩ = some (.int .u8 u) := (World.cell?_alloc_lt w _ _ (by exact hlt)).trans c3
  clear c0 c1 c2 c3
  go_enter Tryd.func16, Tryd.ntmps16
  go_wp2_with (go_at_call 43; refine (HB.out _).mono ?_; rintro e w1 ⟨rfl, rfl⟩)
  refine wp_loop_rounds 5 ?_
  repeat any_goals (rw [rounds_succ]; go_wp2_with (go_at_call 47; refine (HN.out _ _).mono ?_; rintro e w2 ⟨rfl, hb2⟩; have h2 := HO.out.below hb2; have H2 := Lib.hid h2; obtain ⟨r0, r1, r2, f0, f1, f2⟩ := h2.cells; clear h2 hb2))
  try simp only [Exit.inBlock, Exit.then]
  refine bodyPost_ret (v := .tuple #[.agg #[.int .i64 1, .int .i64 (wrapT (T.nums s) (x + 256 * (y + 256 * (z + 256 * (u + 256 * (0)))))), .int .i64 0], .int .i64 0]) (by rw [results_cell_tmp rfl]; go_simp; try (exact congrArg _ (by omega))) rfl ?_
  exact ⟨rfl, ((H2.out.1.setCell (Nat.le_refl _) _).setCell (Nat.le_refl _) _).setCell (Nat.le_refl _) _⟩
end
theorem Unpack2_no (s : ByteArray) (A : Option Addr) (n c : Nat) (w : World) (h0 : bitsT (T.nums s) = 0) :
    Calls Tryd.prog 16 #[.string s, .slice A n c] w fun e w' => e = .returned (.tuple #[vT 0 0 0, .int .i64 5]) ∧ Below w.heap.size w w' := by
  unfold vT
  have HB := Lib.hid (bits43_any s)
  rw [h0] at HB
  clear h0
  go_enter Tryd.func16, Tryd.ntmps16
  go_wp2_with (go_at_call 43; refine (HB.out _).mono ?_; rintro e w2 ⟨rfl, rfl⟩)
  try simp only [Exit.inBlock, Exit.then]
  refine bodyPost_ret (v := .tuple #[.agg #[.int .i64 0, .int .i64 0, .int .i64 0], .int .i64 5]) (by rw [results_cell_tmp rfl]; go_simp) rfl ?_
  exact ⟨rfl, (Below.refl _ _).alloc (Nat.le_refl _) _⟩
theorem Unpack2_long (s : ByteArray) (A : Option Addr) (n c q : Nat) (w : World) (h0 : bitsT (T.nums s) ≠ 0) (hq3 : ((bitsT (T.nums s) : Nat) : Int).tdiv 8 = q) (hwq : wrap64 (q : Int) = q) (hne : ((n : Int) != q) = true) :
    Calls Tryd.prog 16 #[.string s, .slice A n c] w fun e w' => e = .returned (.tuple #[vT 0 0 0, .int .i64 3]) ∧ Below w.heap.size w w' := by
  unfold vT
  have HB := Lib.hid (bits43_any s)
  have hm : ((bitsT (T.nums s) : Int) == 0) = false := by rw [beq_eq_false_iff_ne]; omega
  clear h0
  generalize bitsT (T.nums s) = m at *
  go_enter Tryd.func16, Tryd.ntmps16
  go_wp2_with (go_at_call 43; refine (HB.out _).mono ?_; rintro e w2 ⟨rfl, rfl⟩)
  try simp only [Exit.inBlock, Exit.then]
  refine bodyPost_ret (v := .tuple #[.agg #[.int .i64 0, .int .i64 0, .int .i64 0], .int .i64 3]) (by rw [results_cell_tmp rfl]; go_simp) rfl ?_
  exact ⟨rfl, (Below.refl _ _).alloc (Nat.le_refl _) _⟩
theorem rd_one {w : World} {A : Option Addr} {x : Int} (hA : Rd w w.heap.size A (bs [x])) : ∃ ad, A = some ad ∧ ad.block < w.heap.size ∧ w.cell? ad = some (.int .u8 x) := by
  obtain ⟨ad, rfl, hb, hc⟩ := hA (by simp [bs])
  exact ⟨ad, rfl, hb, hc 0 _ rfl⟩
theorem rd_two {w : World} {A : Option Addr} {x y : Int} (hA : Rd w w.heap.size A (bs [x, y])) : ∃ ad, A = some ad ∧ ad.block < w.heap.size ∧ w.cell? ad = some (.int .u8 x) ∧ w.cell? ⟨ad.block, ad.off + 1, none⟩ = some (.int .u8 y) := by
  obtain ⟨ad, rfl, hb, hc⟩ := hA (by simp [bs])
  exact ⟨ad, rfl, hb, hc 0 _ rfl, hc 1 _ rfl⟩
theorem rd_4 {w : World} {A : Option Addr} {x0 x1 x2 x3 : Int} (hA : Rd w w.heap.size A (bs [x0, x1, x2, x3])) : ∃ ad, A = some ad ∧ ad.block < w.heap.size ∧ w.cell? ad = some (.int .u8 x0) ∧ w.cell? ⟨ad.block, ad.off + 1, none⟩ = some (.int .u8 x1) ∧ w.cell? ⟨ad.block, ad.off + 2, none⟩ = some (.int .u8 x2) ∧ w.cell? ⟨ad.block, ad.off + 3, none⟩ = some (.int .u8 x3) := by
  obtain ⟨ad, rfl, hb, hc⟩ := hA (by simp [bs])
  exact ⟨ad, rfl, hb, hc 0 _ rfl, hc 1 _ rfl, hc 2 _ rfl, hc 3 _ rfl⟩
theorem Unpack2_any (s : ByteArray) (A : Option Addr) (n c : Nat) (l : List Int) (w : World) (hl : l.length = n) (hA : Rd w w.heap.size A (bs l)) (hb : ∀ x ∈ l, 0 ≤ x ∧ x ≤ 255) :
    Calls Tryd.prog 16 #[.string s, .slice A n c] w fun e w' => e = .returned (unpackV (T.nums s) l) ∧ Below w.heap.size w w' := by
  unfold unpackV
  by_cases h0 : bitsT (T.nums s) = 0
  · rw [if_pos h0]
    exact Unpack2_no s A n c w h0
  · rw [if_neg h0]
    have HN : Hid (NumD s) := Lib.hid (fun n W => number2_of s n W h0)
    have HB : Hid (Bit43 s (bitsT (T.nums s) : Nat)) := Lib.hid (bits43_any s)
    by_cases hlen : l.length = bitsT (T.nums s) / 8
    · rw [if_neg (fun h => h hlen)]
      unfold vT
      rcases bits_cases (T.nums s) with h | h | h | h
      · exact absurd h h0
      · rw [h] at hlen HB
        match l, hlen, hl, hA, hb with
        | [x], _, hl, hA, hb =>
          subst hl
          obtain ⟨ad, rfl, hlt, c0⟩ := rd_one hA
          exact Unpack2_1 hlt c0 (hb x (by simp)) HB HN
      · rw [h] at hlen HB
        match l, hlen, hl, hA, hb with
        | [x, y], _, hl, hA, hb =>
          subst hl
          obtain ⟨ad, rfl, hlt, c0, c1⟩ := rd_two hA
          exact Unpack2_2 hlt c0 (hb x (by simp)) c1 (hb y (by simp)) HB HN
      · rw [h] at hlen HB
        match l, hlen, hl, hA, hb with
        | [x, y, z, u], _, hl, hA, hb =>
          subst hl
          obtain ⟨ad, rfl, hlt, c0, c1, c2, c3⟩ := rd_4 hA
          exact Unpack2_4 hlt c0 (hb x (by simp)) c1 (hb y (by simp)) c2 (hb z (by simp)) c3 (hb u (by simp)) HB HN
    · rw [if_pos hlen]
      have hq : ∃ q : Nat, bitsT (T.nums s) / 8 = q ∧ (q = 1 ∨ q = 2 ∨ q = 4) ∧ ((bitsT (T.nums s) : Nat) : Int).tdiv 8 = q := by
        rcases bits_cases (T.nums s) with h | h | h | h
        · exact absurd h h0
        · exact ⟨1, by rw [h], by omega, by rw [h]; rfl⟩
        · exact ⟨2, by rw [h], by omega, by rw [h]; rfl⟩
        · exact ⟨4, by rw [h], by omega, by rw [h]; rfl⟩
      obtain ⟨q, hq1, hq2, hq3⟩ := hq
      exact Unpack2_long s A n c q w h0 hq3 (by rcases hq2 with rfl | rfl | rfl <;> kernel_rfl) (by simp only [bne_iff_ne, ne_eq]; omega)
end Go.Proofs.YtejhphnlickjlaaDoor.ty
