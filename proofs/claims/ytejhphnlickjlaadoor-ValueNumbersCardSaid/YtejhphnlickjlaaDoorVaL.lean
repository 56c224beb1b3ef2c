/-
  Contracts of the bytes of words, of package word and of the reference; the same bytes. Conditions: words and bytes lie in their bounds; lists stand in memory.
-/
import Derived.Test.YtejhphnlickjlaaDoorVaC
import Derived.Test.YtejhphnlickjlaaDoorWordText
namespace Go.Proofs.YtejhphnlickjlaaDoor.ty
open Go.ChangeShapes Go.WideShapes Go.RowKit
open M W
set_option linter.unusedVariables false
theorem cn (W : World) (cs : Array Value) (t : TypeId) (j : Nat) : (W.alloc (.cells cs t)).cell? ⟨W.heap.size, j, none⟩ = cs[j]? := cell_of_row _ _ _ _ _ _ (heap_alloc_new W _)
theorem below_drewN {B : Nat} {a w : World} (h : Below B a w) (n : Nat) : Below B a (w.drewN n) := ⟨h.os, h.tape, h.output, h.size, h.block⟩
def bs (l : List Int) : List Value := l.map (.int .u8)
theorem bs_length (l : List Int) : (bs l).length = l.length := by simp [bs]
theorem bs_one (l : List Int) : ∀ u ∈ bs l, u.oneCell' = true := by
  intro u hu
  obtain ⟨x, _, rfl⟩ := List.mem_map.1 hu
  rfl
theorem conv_rd (W : World) (B : Nat) (A : Option Addr) (n c : Nat) (xs : List Int) (hx : xs.length = n) (hA : Rd W B A (bs xs)) : (convert 25 9 (.slice A n c)).run Tryd.prog W = .ok (.string (strOfNums xs)) W := by
  rcases A with _ | ad
  · have hn : xs = [] := by
      rcases List.eq_nil_or_concat xs with h | ⟨_, _, h⟩
      · exact h
      · obtain ⟨ad, h, _⟩ := hA (by rw [h]; simp [bs])
        cases h
    subst hn
    rw [run_convert_bytes_nil W 25 5 Tryd.underlying25 Tryd.underlying5 n c 9 Tryd.underlying9]
    rfl
  · have hl : (loadCells ad n).run Tryd.prog W = .ok (xs.map (Value.int .u8)).toArray W := by
      have := run_loadCells_list (P := Tryd.prog) W ad (xs.map (Value.int .u8)) (fun j v hj => by
        obtain ⟨ad', h, _, hc⟩ := hA (by rintro h0; have : (bs xs)[j]? = some v := hj; rw [h0] at this; simp at this)
        injection h with h
        subst h
        exact hc j v hj)
      simpa [hx] using this
    rw [run_convert_bytes_string W 25 9 5 _ n c Tryd.underlying25 Tryd.underlying5 Tryd.underlying9, run_bytesToString W _ n c xs hl, foldl_push_bytes]
    simp [strOfNums, ByteArray.empty, ByteArray.emptyWithCapacity]
    rfl
theorem sameBytes_self (A B : Option Addr) (n c d : Nat) (w : World) (xs : List Int) (hx : xs.length = n) (hA : Rd w w.heap.size A (bs xs)) (hB : Rd w w.heap.size B (bs xs)) :
    Calls Tryd.prog 19 #[.slice A n c, .slice B n d] w fun e w' => e = .returned (.bool true) ∧ w = w' := by
  have k1 := conv_rd w _ A n c xs hx hA
  have k2 := conv_rd w _ B n d xs hx hB
  clear hx hA hB
  go_enter Tryd.func19, Tryd.ntmps19
  go_wp2
  go_ret
  exact ⟨rfl, rfl⟩
def bytesL (a : Int) : List Int := [a % 256, a / 256 % 256, a / 65536 % 256, a / 16777216]
theorem rd_four (w : World) (x0 x1 x2 x3 : Int) : Rd (w.alloc (.cells #[.int .u8 x0, .int .u8 x1, .int .u8 x2, .int .u8 x3] 5)) (w.heap.size + 1) (some ⟨w.heap.size, 0, none⟩) (bs [x0, x1, x2, x3]) := fun _ =>
  ⟨_, rfl, by simp, fun j u hu => by
    rw [show (⟨w.heap.size, 0, none⟩ : Addr).add j = ⟨w.heap.size, j, none⟩ from by unfold Addr.add; split <;> simp_all, cn]
    simpa [bs] using hu⟩
theorem bytes_any (a : Int) (w : World) (ha : 0 ≤ a) (ha' : a < 4294967296) :
    Calls Tryd.prog 51 #[.int .u32 a] w fun e w' => ∃ g, e = .returned (.slice (some ⟨g, 0, none⟩) 4 4) ∧ Rd w' w'.heap.size (some ⟨g, 0, none⟩) (bs (bytesL a)) ∧ Below w.heap.size w w' := by
  go_enter Tryd.func51, Tryd.ntmps51
  go_wp2
  go_ret
  exact ⟨w.heap.size, rfl, (rd_four w _ _ _ _).more (by simp), (Below.refl _ _).alloc (Nat.le_refl _) _⟩
theorem rbytes_any (a : Int) (w : World) (ha : 0 ≤ a) (ha' : a < 4294967296) :
    Calls Tryd.prog 53 #[.int .u32 a] w fun e w' => ∃ g, e = .returned (.slice (some ⟨g, 0, none⟩) 4 4) ∧ Rd w' w'.heap.size (some ⟨g, 0, none⟩) (bs (bytesL a)) ∧ Below w.heap.size w w' := by
  go_enter Tryd.func53, Tryd.ntmps53
  go_wp2
  go_ret
  exact ⟨w.heap.size, rfl, (rd_four w _ _ _ _).more (by simp), (Below.refl _ _).alloc (Nat.le_refl _) _⟩
def fromR (l : List Int) : Int × Int := match l with | [x0, x1, x2, x3] => (x0 + x1 * 256 + x2 * 65536 + x3 * 16777216, 0) | _ => (0, 3)
theorem fromR_no {l : List Int} (h : l.length ≠ 4) : fromR l = (0, 3) := by
  unfold fromR
  split
  · simp at h
  · rfl
theorem four_cells {w : World} {A : Option Addr} {x0 x1 x2 x3 : Int} (hA : Rd w w.heap.size A (bs [x0, x1, x2, x3])) : ∃ ad, A = some ad ∧ w.cell? ad = some (.int .u8 x0) ∧ w.cell? ⟨ad.block, ad.off + 1, none⟩ = some (.int .u8 x1) ∧ w.cell? ⟨ad.block, ad.off + 2, none⟩ = some (.int .u8 x2) ∧ w.cell? ⟨ad.block, ad.off + 3, none⟩ = some (.int .u8 x3) := by
  obtain ⟨ad, rfl, _, hc⟩ := hA (by simp [bs])
  exact ⟨ad, rfl, hc 0 _ rfl, hc 1 _ rfl, hc 2 _ rfl, hc 3 _ rfl⟩
theorem from_any (A : Option Addr) (n c : Nat) (l : List Int) (w : World) (hl : l.length = n) (hn : n ≤ maxLen) (hA : Rd w w.heap.size A (bs l)) (hb : ∀ x ∈ l, 0 ≤ x ∧ x ≤ 255) :
    Calls Tryd.prog 50 #[.slice A n c] w fun e w' => e = .returned (.tuple #[.int .u32 (fromR l).1, .int .i64 (fromR l).2]) ∧ Below w.heap.size w w' := by
  unfold maxLen at hn
  by_cases h4 : n = 4
  · subst h4
    match l, hl with
    | [x0, x1, x2, x3], _ =>
      obtain ⟨ad, rfl, c0, c1, c2, c3⟩ := four_cells hA
      have h0 := hb x0 (by simp)
      have h1 := hb x1 (by simp)
      have h2 := hb x2 (by simp)
      have h3 := hb x3 (by simp)
      have ho := or_word x0 x1 x2 x3 h0 h1 h2 h3
      clear hb hA
      go_enter Tryd.func50, Tryd.ntmps50
      go_wp2
      go_quiet (fail)
      go_wp2
      go_ret2
      exact ⟨rfl, below_drewN (Below.refl _ _) _⟩
  · rw [fromR_no (by rw [hl]; exact h4)]
    have hd : ((n : Int) != 4) = true := by simp; omega
    clear hA hl hb h4
    go_enter Tryd.func50, Tryd.ntmps50
    go_wp2
    go_ret2
    exact ⟨rfl, Below.refl _ _⟩
end Go.Proofs.YtejhphnlickjlaaDoor.ty
