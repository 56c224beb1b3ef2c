/-
  The contracts of Pack, of package value and of the reference. Condition: the table of keywords stands in memory; lengths.
-/
import Derived.Test.YtejhphnlickjlaaDoorVaT
import Derived.Test.YtejhphnlickjlaaDoorVaR
namespace Go.Proofs.YtejhphnlickjlaaDoor.ty
open Go.ChangeShapes Go.WideShapes Go.RowKit
open M T W
set_option linter.unusedVariables false
/-- the bytes that Pack hands back; which error -/
noncomputable def packE (l : List Int) (k i o : Int) : Int := if bitsT l = 0 then 5 else lookV l k i o
noncomputable def packL (l : List Int) (k i o : Int) : List Int := if packE l k i o = 0 then (bytesL (i % 4294967296)).take (bitsT l / 8) else []
/-- what Pack answers -/
def PackS (l : List Int) (k i o : Int) (e : Ending) (w' : World) : Prop :=
  ∃ A c, e = .returned (.tuple #[.slice A (packL l k i o).length c, .int .i64 (packE l k i o)]) ∧ Rd w' w'.heap.size A (bs (packL l k i o))
theorem packS_nil {l : List Int} {k i o E : Int} {w' : World} (hE : packE l k i o = E) (h0 : E ≠ 0) : PackS l k i o (.returned (.tuple #[.slice none 0 0, .int .i64 E])) w' := by
  have hl : packL l k i o = [] := by unfold packL; rw [hE, if_neg h0]
  exact ⟨none, 0, by rw [hl, hE]; rfl, by rw [hl]; exact Rd.nil⟩
theorem packS_ok {l : List Int} {k i o : Int} {w' : World} {A : Option Addr} {q c : Nat} (h0 : bitsT l ≠ 0) (hL : lookV l k i o = 0) (hq : bitsT l / 8 = q) (h4 : q ≤ 4) (hR : Rd w' w'.heap.size A (bs ((bytesL (i % 4294967296)).take q))) :
    PackS l k i o (.returned (.tuple #[.slice A q c, .int .i64 0])) w' := by
  have hE : packE l k i o = 0 := by unfold packE; rw [if_neg h0, hL]
  have hl : packL l k i o = (bytesL (i % 4294967296)).take q := by unfold packL; rw [if_pos hE, hq]
  refine ⟨A, c, ?_, by rw [hl]; exact hR⟩
  rw [hl, hE, List.length_take, show (bytesL (i % 4294967296)).length = 4 from rfl, Nat.min_eq_left h4]
/-- the variable: the value -/
structure EnvP (w W : World) (k i o : Int) : Prop where
  below : Below w.heap.size w W
  v : W.heap[w.heap.size]? = some (.cells #[.int .i64 k, .int .i64 i, .int .i64 o] 24 (0, 0))
section
variable {w : World} {k i o L : Int} {s : ByteArray} {m q : Nat}
theorem EnvP.after {W W' : World} (h : EnvP w W k i o) (hb : Below W.heap.size W W') : EnvP w W' k i o :=
  ⟨h.below.trans (hb.mono h.below.size), (hb.block _ (Array.getElem?_eq_some_iff.1 h.v).1).trans h.v⟩
theorem EnvP.alloc {W : World} (h : EnvP w W k i o) (b : Obj) : EnvP w (W.alloc b) k i o := h.after ((Below.refl _ _).alloc (Nat.le_refl _) _)
theorem EnvP.new (w : World) (k i o : Int) : EnvP w (w.alloc (.cells #[.int .i64 k, .int .i64 i, .int .i64 o] 24)) k i o := ⟨(Below.refl _ _).alloc (Nat.le_refl _) _, heap_alloc_new w _⟩
theorem EnvP.vv {W : World} (h : EnvP w W k i o) : W.cell? ⟨w.heap.size, 0, none⟩ = some (.int .i64 k) ∧ W.cell? ⟨w.heap.size, 1, none⟩ = some (.int .i64 i) ∧ W.cell? ⟨w.heap.size, 2, none⟩ = some (.int .i64 o) :=
  ⟨Go.Joins.cell_of_block h.v 0, Go.Joins.cell_of_block h.v 1, Go.Joins.cell_of_block h.v 2⟩
def LookP (w : World) (s : ByteArray) (k i o : Int) (f : FuncId) (L : Int) : Prop := ∀ W g c, EnvP w W k i o → Row1 W g k i o → Calls Tryd.prog f #[.string s, .slice (some ⟨g, 0, none⟩) 1 c] W fun e w' => e = .returned (.int .i64 L) ∧ EnvP w w' k i o
theorem row1_two (w : World) (k i o : Int) : Row1 ((w.alloc (.cells #[.int .i64 k, .int .i64 i, .int .i64 o] 24)).alloc (.cells #[.int .i64 k, .int .i64 i, .int .i64 o] 24)) (w.heap.size + 1) k i o := by
  have := heap_alloc_new (w.alloc (.cells #[.int .i64 k, .int .i64 i, .int .i64 o] 24)) (.cells #[.int .i64 k, .int .i64 i, .int .i64 o] 24)
  simpa [Row1] using this
theorem take4 {W : World} {g : Nat} {l : List Int} (h : Rd W W.heap.size (some ⟨g, 0, none⟩) (bs l)) (q : Nat) : Rd W W.heap.size (some ⟨g, 0, none⟩) (bs (l.take q)) := by
  have := h.take q
  rwa [show (bs l).take q = bs (l.take q) from by simp [bs, List.map_take]] at this
set_option maxRecDepth 20000 in
set_option maxHeartbeats 1600000 in
theorem Pack_any (s : ByteArray) (k i o : Int) (w : World) (hK : KeysIn w) (hs : s.size ≤ maxLen) :
    Calls Tryd.prog 17 #[.string s, vT k i o] w fun e w' => PackS (T.nums s) k i o e w' ∧ Below w.heap.size w w' := by
  have HB := Lib.hid (bits45_any s)
  have HL : Hid (LookP w s k i o 48 (lookV (T.nums s) k i o)) := Lib.hid (fun W g c h hr => (look48_of (Lib.hid (hK.below h.below)) (fun W hW => Of_any s k i o W hW hs) hr).mono fun e w' ⟨a, b⟩ => ⟨a, h.after b⟩)
  have HN := Lib.hid (EnvP.new w k i o)
  have HL2 : Hid (Calls Tryd.prog 48 #[.string s, .slice (some ⟨w.heap.size + 1, 0, none⟩) 1 1] ((w.alloc (.cells #[.int .i64 k, .int .i64 i, .int .i64 o] 24)).alloc (.cells #[.int .i64 k, .int .i64 i, .int .i64 o] 24)) fun e w' => e = .returned (.int .i64 (lookV (T.nums s) k i o)) ∧ EnvP w w' k i o) :=
    Lib.hid (HL.out _ _ _ (HN.out.alloc _) (row1_two w k i o))
  clear HL
  unfold vT
  by_cases h0 : bitsT (T.nums s) = 0
  · have Hfin : ∀ w', PackS (T.nums s) k i o (.returned (.tuple #[.slice none 0 0, .int .i64 5])) w' := fun w' => packS_nil (by unfold packE; rw [if_pos h0]) (by decide)
    rw [h0] at HB
    clear h0
    go_enter Tryd.func17, Tryd.ntmps17
    go_wp2_with (go_at_call 45; refine (HB.out _).mono ?_; rintro e w1 ⟨rfl, rfl⟩)
    go_ret2
    exact ⟨Hfin _, HN.out.below⟩
  · have hm : ((bitsT (T.nums s) : Int) == 0) = false := by rw [beq_eq_false_iff_ne]; omega
    by_cases hL : lookV (T.nums s) k i o = 0
    · have hq : ∃ q : Nat, bitsT (T.nums s) / 8 = q ∧ (q = 1 ∨ q = 2 ∨ q = 4) ∧ ((bitsT (T.nums s) : Nat) : Int).tdiv 8 = q := by
        rcases bits_cases (T.nums s) with h | h | h | h
        · exact absurd h h0
        · exact ⟨1, by rw [h], by omega, by rw [h]; rfl⟩
        · exact ⟨2, by rw [h], by omega, by rw [h]; rfl⟩
        · exact ⟨4, by rw [h], by omega, by rw [h]; rfl⟩
      obtain ⟨q, hq1, hq2, hq3⟩ := hq
      have Hq := Lib.hid hq1
      have Hq4 : Hid (q ≤ 4) := Lib.hid (by omega)
      have hwq : wrap64 (q : Int) = q := by rcases hq2 with rfl | rfl | rfl <;> kernel_rfl
      have b1 : (0 : Int) ≤ q := by omega
      have b2 : (q : Int) ≤ 4 := by omega
      have Hb0 := Lib.hid h0
      have HLz := Lib.hid hL
      have HO := Lib.hid (of_any i)
      have c1 : 0 ≤ i % 4294967296 := by omega
      have c2 : i % 4294967296 < 4294967296 := by omega
      have HY := Lib.hid (fun W => bytes_any (i % 4294967296) W c1 c2)

      rw [hL] at HL2
      clear hL h0 hq1 hq2
      generalize bitsT (T.nums s) = m at hm hq3 HB
      generalize hI : i % 4294967296 = I at HO HY c1 c2
      have HI := Lib.hid hI
      clear hI
      go_enter Tryd.func17, Tryd.ntmps17
      go_wp2_with (first | (go_at_call 45; refine (HB.out _).mono ?_; rintro e w1 ⟨rfl, rfl⟩) | (go_at_call 48; refine HL2.out.mono ?_; rintro e w2 ⟨rfl, h2⟩; have H2 := Lib.hid h2; obtain ⟨v0, v1, v2⟩ := h2.vv; clear h2) | (go_at_call 52; refine (HO.out _).mono ?_; rintro e w3 ⟨rfl, rfl⟩) | (go_at_call 51; refine (HY.out _).mono ?_; rintro e w4 ⟨g4, rfl, h4, hb4⟩; have H4 := Lib.hid h4; have B4 := Lib.hid (H2.out.below.trans (hb4.mono H2.out.below.size)); clear h4 hb4))
      go_ret2
      exact ⟨packS_ok Hb0.out HLz.out Hq.out Hq4.out (by rw [HI.out]; exact (take4 H4.out q)), B4.out⟩
    · have hL' : (lookV (T.nums s) k i o != 0) = true := by simpa using hL
      have Hfin : ∀ w', PackS (T.nums s) k i o (.returned (.tuple #[.slice none 0 0, .int .i64 (lookV (T.nums s) k i o)])) w' := fun w' => packS_nil (by unfold packE; rw [if_neg h0]) hL
      clear hL h0
      generalize lookV (T.nums s) k i o = L at HL2 hL' Hfin
      generalize bitsT (T.nums s) = m at hm HB
      go_enter Tryd.func17, Tryd.ntmps17
      go_wp2_with (first | (go_at_call 45; refine (HB.out _).mono ?_; rintro e w1 ⟨rfl, rfl⟩) | (go_at_call 48; refine HL2.out.mono ?_; rintro e w2 ⟨rfl, h2⟩; have H2 := Lib.hid h2; obtain ⟨v0, v1, v2⟩ := h2.vv; clear h2))
      go_ret2
      exact ⟨Hfin _, H2.out.below⟩
set_option maxRecDepth 20000 in
set_option maxHeartbeats 1600000 in
theorem Pack2_any (s : ByteArray) (k i o : Int) (w : World) (hs : s.size ≤ maxLen) :
    Calls Tryd.prog 18 #[.string s, vT k i o] w fun e w' => PackS (T.nums s) k i o e w' ∧ Below w.heap.size w w' := by
  have HB := Lib.hid (bits43_any s)
  have HL : Hid (LookP w s k i o 49 (lookV (T.nums s) k i o)) := Lib.hid (fun W g c h hr => (look49_of (fun W => Of2_any s k i o W hs) hr).mono fun e w' ⟨a, b⟩ => ⟨a, h.after b⟩)
  have HN := Lib.hid (EnvP.new w k i o)
  have HL2 : Hid (Calls Tryd.prog 49 #[.string s, .slice (some ⟨w.heap.size + 1, 0, none⟩) 1 1] ((w.alloc (.cells #[.int .i64 k, .int .i64 i, .int .i64 o] 24)).alloc (.cells #[.int .i64 k, .int .i64 i, .int .i64 o] 24)) fun e w' => e = .returned (.int .i64 (lookV (T.nums s) k i o)) ∧ EnvP w w' k i o) :=
    Lib.hid (HL.out _ _ _ (HN.out.alloc _) (row1_two w k i o))
  clear HL
  unfold vT
  by_cases h0 : bitsT (T.nums s) = 0
  · have Hfin : ∀ w', PackS (T.nums s) k i o (.returned (.tuple #[.slice none 0 0, .int .i64 5])) w' := fun w' => packS_nil (by unfold packE; rw [if_pos h0]) (by decide)
    rw [h0] at HB
    clear h0
    go_enter Tryd.func18, Tryd.ntmps18
    go_wp2_with (go_at_call 43; refine (HB.out _).mono ?_; rintro e w1 ⟨rfl, rfl⟩)
    go_ret2
    exact ⟨Hfin _, HN.out.below⟩
  · have hm : ((bitsT (T.nums s) : Int) == 0) = false := by rw [beq_eq_false_iff_ne]; omega
    by_cases hL : lookV (T.nums s) k i o = 0
    · have hq : ∃ q : Nat, bitsT (T.nums s) / 8 = q ∧ (q = 1 ∨ q = 2 ∨ q = 4) ∧ ((bitsT (T.nums s) : Nat) : Int).tdiv 8 = q := by
        rcases bits_cases (T.nums s) with h | h | h | h
        · exact absurd h h0
        · exact ⟨1, by rw [h], by omega, by rw [h]; rfl⟩
        · exact ⟨2, by rw [h], by omega, by rw [h]; rfl⟩
        · exact ⟨4, by rw [h], by omega, by rw [h]; rfl⟩
      obtain ⟨q, hq1, hq2, hq3⟩ := hq
      have Hq := Lib.hid hq1
      have Hq4 : Hid (q ≤ 4) := Lib.hid (by omega)
      have hwq : wrap64 (q : Int) = q := by rcases hq2 with rfl | rfl | rfl <;> kernel_rfl
      have b1 : (0 : Int) ≤ q := by omega
      have b2 : (q : Int) ≤ 4 := by omega
      have Hb0 := Lib.hid h0
      have HLz := Lib.hid hL
      have HO := Lib.hid (rof_any i)
      have c1 : 0 ≤ i % 4294967296 := by omega
      have c2 : i % 4294967296 < 4294967296 := by omega
      have HY := Lib.hid (fun W => rbytes_any (i % 4294967296) W c1 c2)
      have HC : Hid (∀ W g c, Rd W W.heap.size (some ⟨g, 0, none⟩) (bs ((bytesL (i % 4294967296)).take q)) → Calls Tryd.prog 14 #[.slice (some ⟨g, 0, none⟩) q c] W fun e w' => ∃ A' c', e = .returned (.slice A' q c') ∧ q ≤ c' ∧ c' ≤ maxLen ∧ w'.ownsRow W.heap.size 5 1 (.slice A' q c') q (bs ((bytesL (i % 4294967296)).take q)) ∧ Below W.heap.size W w') := Lib.hid (fun W g c h => cbytes_any _ q c _ W (by rw [List.length_take, show (bytesL (i % 4294967296)).length = 4 from rfl, Nat.min_eq_left Hq4.out]) (by have := Hq4.out; omega) h)
      rw [hL] at HL2
      clear hL h0 hq1 hq2
      generalize bitsT (T.nums s) = m at hm hq3 HB
      generalize hI : i % 4294967296 = I at HO HY c1 c2 HC
      have HI := Lib.hid hI
      clear hI
      go_enter Tryd.func18, Tryd.ntmps18
      go_wp2_with (first | (go_at_call 43; refine (HB.out _).mono ?_; rintro e w1 ⟨rfl, rfl⟩) | (go_at_call 49; refine HL2.out.mono ?_; rintro e w2 ⟨rfl, h2⟩; have H2 := Lib.hid h2; obtain ⟨v0, v1, v2⟩ := h2.vv; clear h2) | (go_at_call 54; refine (HO.out _).mono ?_; rintro e w3 ⟨rfl, rfl⟩) | (go_at_call 53; refine (HY.out _).mono ?_; rintro e w4 ⟨g4, rfl, h4, hb4⟩; have H4 := Lib.hid h4; have B4 := Lib.hid (H2.out.below.trans (hb4.mono H2.out.below.size)); clear h4 hb4) | (go_at_call 14; refine (HC.out _ _ _ (take4 H4.out q)).mono ?_; rintro e w5 ⟨A5, c5, rfl, -, -, h5, hb5⟩; have R5 := Lib.hid (Rd.of_own h5); have B5 := Lib.hid (B4.out.trans (hb5.mono B4.out.size)); clear h5 hb5))
      go_ret2
      exact ⟨packS_ok Hb0.out HLz.out Hq.out Hq4.out (by rw [HI.out]; exact R5.out), B5.out⟩
    · have hL' : (lookV (T.nums s) k i o != 0) = true := by simpa using hL
      have Hfin : ∀ w', PackS (T.nums s) k i o (.returned (.tuple #[.slice none 0 0, .int .i64 (lookV (T.nums s) k i o)])) w' := fun w' => packS_nil (by unfold packE; rw [if_neg h0]) hL
      clear hL h0
      generalize lookV (T.nums s) k i o = L at HL2 hL' Hfin
      generalize bitsT (T.nums s) = m at hm HB
      go_enter Tryd.func18, Tryd.ntmps18
      go_wp2_with (first | (go_at_call 43; refine (HB.out _).mono ?_; rintro e w1 ⟨rfl, rfl⟩) | (go_at_call 49; refine HL2.out.mono ?_; rintro e w2 ⟨rfl, h2⟩; have H2 := Lib.hid h2; obtain ⟨v0, v1, v2⟩ := h2.vv; clear h2))
      go_ret2
      exact ⟨Hfin _, H2.out.below⟩
end
end Go.Proofs.YtejhphnlickjlaaDoor.ty
