/-
  Sets of registers: joined. Condition: two blocks.
-/
import Derived.Test.YthgbmhpfblgjcaaGreatDoorFlA
import Derived.Deep.WholeRow
import Derived.Deep.MidRow
import Derived.Deep.Cut
set_option linter.unusedVariables false
set_option linter.unusedSimpArgs false
namespace Go.Proofs.YthgbmhpfblgjcaaGreatDoor.fl
open Go.RowKit Go.Shelf
open M T ty
theorem setCells_length (m : Nat) (R : Int) : (setCells m R).length = 65 := by simp [setCells]
theorem zero69 : (Tryz.prog.info? 69).map (fun i => (i.zero, i.size)) = some (some (.agg (setCells 0 0).toArray), 65) := by kernel_rfl
theorem SetAt.load {w : World} {b m : Nat} {R : Int} (h : SetAt w b m R) : (loadCellsFrom ⟨b, 0, none⟩ 0 65 #[]).run Tryz.prog w = .ok (setCells m R).toArray w := by
  have := run_loadCells_list (P := Tryz.prog) w ⟨b, 0, none⟩ (setCells m R) (fun j v hv => by
    have hadd : (⟨b, 0, none⟩ : Addr).add j = ⟨b, j, none⟩ := by unfold Addr.add; split <;> simp_all
    rw [hadd, Go.Joins.cell_of_block h j]
    simpa using hv)
  simpa [loadCells, setCells_length] using this
theorem SetAt.one (m : Nat) (R : Int) : (setCells m R).toArray.all (·.oneCell') = true := by
  rw [Array.all_eq_true_iff_forall_mem]
  intro v hv
  simp only [List.mem_toArray] at hv
  unfold setCells at hv
  rcases List.mem_append.1 hv with h | h
  · obtain ⟨i, -, rfl⟩ := List.mem_map.1 h
    rfl
  · simp only [List.mem_singleton] at h
    rw [h]; rfl
/-- a whole set into the block that was made last -/
theorem wpList_store_new {ops : Array Oper} {rest : List Oper} {op : Oper} {a : Act} {w : World} {Q : Exit → Act → World → Prop} (hgd : op.guard = none) (x y : Operand) (ho : op.op = .store 69 x y)
    (m : Nat) (R : Int) (hx : a.eval x = .pointer (some ⟨w.heap.size, 0, none⟩)) (hy : a.eval y = .agg (setCells m R).toArray)
    (h : wpList Tryz.prog ops Q rest (a.put op.dst undef) (w.alloc (.cells (setCells m R).toArray 69))) : wpList Tryz.prog ops Q (op :: rest) a (w.alloc (.cells (setCells 0 0).toArray 69)) :=
  wpList_plain hgd fun K hK => by
    obtain ⟨hz, hsz⟩ := zero_of_info zero69
    have hsv := run_storeAt_new (P := Tryz.prog) w 69 (setCells 0 0).toArray (setCells m R).toArray (by rw [hsz]; simp [setCells_length]) (by simp [setCells_length]) (SetAt.one m R)
    unfold Oper.wp execOp
    simp only [ho, hx, hy, Sem.run_bind, Sem.run_pure, Result.andThen_ok, hsv]
    exact hK _ _ h
set_option maxRecDepth 4000 in
theorem without_54 (b m : Nat) (R : Int) (n : Nat) (w : World) (hn : n < 4096) (hm : m < 2 ^ 4096) (h : SetAt w b m R) :
    Calls Tryz.prog 54 #[.pointer (some ⟨b, 0, none⟩), .int .i64 n] w fun e w' => e = .returned (.pointer (some ⟨w.heap.size, 0, none⟩)) ∧ Below w.heap.size w w' ∧ SetAt w' w.heap.size (cut m n) R := by
  have H := Lib.hid h
  have hld := h.load
  obtain ⟨hz, hsz⟩ := zero_of_info zero69
  have hst := run_storeCells_new (P := Tryz.prog) w 69 (setCells 0 0).toArray (setCells m R).toArray (by rw [hsz]; simp [setCells_length]) (by simp [setCells_length]) (SetAt.one m R)
  have hra : w.rangeAt b 0 (setCells m R) := by
    have := World.rangeAt_of_block h 0 65
    rwa [Nat.zero_add, List.extract_toArray, List.extract_eq_take_drop, List.drop_zero, List.take_of_length_le (by rw [setCells_length]; omega)] at this
  have hs2 : SetAt (w.alloc (.cells (setCells m R).toArray 69)) w.heap.size m R := heap_alloc_new w _
  have HD := Lib.hid (drop_64 w.heap.size m R n (w.alloc (.cells (setCells m R).toArray 69)) hn hm hs2)
  clear hld hst hs2
  clear h hm
  go_enter Tryz.func54, Tryz.ntmps54
  go_upto_region 1 with fail
  refine wp_region_lit ?_
  refine wpList_plain rfl fun K hK => ?_
  unfold Oper.wp execOp
  go_simp
  refine hK _ _ ?_
  clear hK K
  refine wpList_plain rfl fun K hK => ?_
  unfold Oper.wp execOp
  go_simp
  refine hK _ _ ?_
  clear hK K
  refine wpList_load_mid rfl 69 (.tmp 7) rfl b 0 rfl (setCells m R) _ hra Tryz.underlying69 rfl (by rw [hsz, setCells_length]) ?_
  refine wpList_plain rfl fun K hK => ?_
  unfold Oper.wp execOp
  simp only [Sem.run_bind, hz, Result.andThen_ok]
  go_simp
  refine hK _ _ ?_
  clear hK K
  refine wpList_store_new rfl (.tmp 5) (.tmp 8) rfl m R rfl rfl ?_
  refine wpList_nil ?_
  rename_i K1 hK1
  refine hK1 _ _ ?_
  go_wp2_with (go_at_call 64; refine HD.out.mono ?_; rintro e w1 ⟨rfl, hg, hs⟩)
  go_ret
  exact ⟨rfl, ((Below.refl _ _).alloc (Nat.le_refl _) _).grown hg (by simp) (fun g hg => by have := Option.some.inj hg; omega), hs⟩
set_option maxRecDepth 4000 in
theorem without_none (b m : Nat) (R : Int) (n : Int) (w : World) (hn : n < 0) (h : SetAt w b m R) :
    Calls Tryz.prog 54 #[.pointer (some ⟨b, 0, none⟩), .int .i64 n] w fun e w' => e = .returned (.pointer (some ⟨w.heap.size, 0, none⟩)) ∧ Below w.heap.size w w' ∧ SetAt w' w.heap.size m R := by
  obtain ⟨hz, hsz⟩ := zero_of_info zero69
  have hra : w.rangeAt b 0 (setCells m R) := by
    have := World.rangeAt_of_block h 0 65
    rwa [Nat.zero_add, List.extract_toArray, List.extract_eq_take_drop, List.drop_zero, List.take_of_length_le (by rw [setCells_length]; omega)] at this
  have HD := Lib.hid (drop_none w.heap.size n (w.alloc (.cells (setCells m R).toArray 69)) hn)
  clear h hn
  go_enter Tryz.func54, Tryz.ntmps54
  go_upto_region 1 with fail
  refine wp_region_lit ?_
  refine wpList_plain rfl fun K hK => ?_
  unfold Oper.wp execOp
  go_simp
  refine hK _ _ ?_
  clear hK K
  refine wpList_plain rfl fun K hK => ?_
  unfold Oper.wp execOp
  go_simp
  refine hK _ _ ?_
  clear hK K
  refine wpList_load_mid rfl 69 (.tmp 7) rfl b 0 rfl (setCells m R) _ hra Tryz.underlying69 rfl (by rw [hsz, setCells_length]) ?_
  refine wpList_plain rfl fun K hK => ?_
  unfold Oper.wp execOp
  simp only [Sem.run_bind, hz, Result.andThen_ok]
  go_simp
  refine hK _ _ ?_
  clear hK K
  refine wpList_store_new rfl (.tmp 5) (.tmp 8) rfl m R rfl rfl ?_
  refine wpList_nil ?_
  rename_i K1 hK1
  refine hK1 _ _ ?_
  go_wp2_with (go_at_call 64; refine HD.out.mono ?_; rintro e w1 ⟨rfl, rfl⟩)
  go_ret
  exact ⟨rfl, (Below.refl _ _).alloc (Nat.le_refl _) _, heap_alloc_new w _⟩
end Go.Proofs.YthgbmhpfblgjcaaGreatDoor.fl
namespace Go.Proofs.YthgbmhpfblgjcaaGreatDoor.fl
open Go.RowKit Go.Shelf
open M T ty
set_option linter.unusedVariables false
/-- m joined with o's first i words -/
def acc (m o i : Nat) : Nat := m ||| o % 2 ^ (64 * i)
theorem word_mod (o i j : Nat) : word (o % 2 ^ (64 * i)) j = if j < i then word o j else 0 := by
  apply Nat.eq_of_testBit_eq
  intro k
  rw [bit_word, Nat.testBit_mod_two_pow]
  by_cases hk : k < 64
  · by_cases hj : j < i
    · rw [if_pos hj, bit_word, decide_eq_true (show 64 * j + k < 64 * i by omega), Bool.true_and]
    · rw [if_neg hj, decide_eq_false (show ¬ 64 * j + k < 64 * i by omega), Bool.false_and, Bool.and_false, Nat.zero_testBit]
  · rw [decide_eq_false hk, Bool.false_and]
    split
    · rw [bit_word, decide_eq_false hk, Bool.false_and]
    · rw [Nat.zero_testBit]
theorem word_acc (m o i j : Nat) : word (acc m o i) j = if j < i then word m j ||| word o j else word m j := by
  unfold acc
  rw [word_or, word_mod]
  split
  · rfl
  · exact Nat.or_zero _
theorem acc_zero (m o : Nat) : acc m o 0 = m := by unfold acc; rw [Nat.mul_zero, Nat.pow_zero, Nat.mod_one]; exact Nat.or_zero _
theorem acc_all {m o i : Nat} (h : o < 2 ^ (64 * i)) : acc m o i = m ||| o := by unfold acc; rw [Nat.mod_eq_of_lt h]
theorem acc_lt {m o i : Nat} (hm : m < 2 ^ 4096) (ho : o < 2 ^ 4096) : acc m o i < 2 ^ 4096 := Nat.or_lt_two_pow (n := 4096) hm (Nat.lt_of_le_of_lt (Nat.mod_le _ _) ho)
theorem acc_more {m o i : Nat} (hm : m < 2 ^ 4096) (ho : o < 2 ^ 4096) (hi : i < 64) : decide (acc m o (i + 1) ≠ m) = (decide (acc m o i ≠ m) || (((word m i ||| word o i : Nat) : Int) != ((word m i : Nat) : Int))) := by
  have key : ∀ k, acc m o k = m ↔ ∀ j, j < 64 → j < k → word m j ||| word o j = word m j := by
    intro k
    constructor
    · intro h j _ hk
      have := word_acc m o k j
      rw [h, if_pos hk] at this
      exact this.symm
    · intro h
      refine word_inj (acc_lt hm ho) hm fun j hj => ?_
      rw [word_acc]
      split
      · rename_i hk; exact h j hj hk
      · rfl
  by_cases h1 : acc m o i = m
  · by_cases h2 : word m i ||| word o i = word m i
    · have h3 : acc m o (i + 1) = m := (key _).2 fun j hj hk => by
        rcases Nat.lt_or_ge j i with h | h
        · exact (key i).1 h1 j hj h
        · have : j = i := by omega
          rw [this]; exact h2
      simp [h1, h2, h3]
    · have h3 : acc m o (i + 1) ≠ m := fun h => h2 ((key _).1 h i hi (by omega))
      have h4 : (((word m i ||| word o i : Nat) : Int) != ((word m i : Nat) : Int)) = true := by
        rw [bne_iff_ne]
        exact fun h => h2 (by exact_mod_cast h)
      rw [h4]
      simp [h3]
  · have h3 : acc m o (i + 1) ≠ m := fun h => h1 ((key i).2 fun j hj hk => (key _).1 h j hj (by omega))
    simp [h1, h3]
theorem SetAt.grown {w w' : World} {b m : Nat} {R : Int} {row : Option Nat} (h : SetAt w b m R) (hg : w.grownBy w' row) (hne : some b ≠ row) : SetAt w' b m R :=
  (hg.block b (Array.getElem?_eq_some_iff.1 h).1 hne).trans h
set_option maxRecDepth 60000 in
set_option maxHeartbeats 4000000 in
theorem join_25 (a b m o : Nat) (r : Nat) (w : World) (hr : r ≤ 4096) (hm : m < 2 ^ 4096) (ho : o < 2 ^ 4096) (hor : o < 2 ^ r) (hab : a ≠ b) (h : SetAt w a m r) (hb : SetAt w b o r) :
    Calls Tryz.prog 25 #[.pointer (some ⟨a, 0, none⟩), .pointer (some ⟨b, 0, none⟩)] w fun e w' => e = .returned (.bool (decide (m ||| o ≠ m))) ∧ w.grownBy w' (some a) ∧ SetAt w' a (m ||| o) r := by
  have H := Lib.hid h
  have HB := Lib.hid hb
  have HM := Lib.hid hm
  have HO := Lib.hid ho
  have HOR := Lib.hid hor
  have HAB := Lib.hid hab
  have c64 := h.most
  clear h hb hm ho hor hab
  go_enter Tryz.func25, Tryz.ntmps25
  go_wp2_with fail
  go_loopg [14, 5] 64 (fun N t u wr => ∃ i : Nat, i ≤ (r + 63) / 64 ∧ N = 64 - i ∧ t = .int .i64 i ∧ u = .bool (decide (acc m o i ≠ m)) ∧ w.grownBy wr (some a) ∧ SetAt wr a (acc m o i) r)
  case atStart => exact ⟨0, by omega, rfl, rfl, by rw [acc_zero]; simp, World.grownBy.refl w _, by rw [acc_zero]; exact H.out⟩
  case round =>
    obtain ⟨i, hi, rfl, rfl, rfl, hg, hs⟩ := hrel
    have HG := Lib.hid hg
    have HS := Lib.hid hs
    clear c64
    by_cases hlt : i < (r + 63) / 64
    · have hi64 : i < 64 := by omega
      have c1 := hs.wd hi64
      have c2 := (HB.out.grown hg (fun e => HAB.out (Option.some.inj e).symm)).wd hi64
      have f1 : wr.frozen? ⟨a, i, none⟩ = false := Go.Joins.unfrozen_of_block hs _
      clear hg hs
      rw [show word (acc m o i) i = word m i from by rw [word_acc, if_neg (by omega)]] at c1
      have hor : bits .or .u64 ((word m i : Nat) : Int) ((word o i : Nat) : Int) = ((word m i ||| word o i : Nat) : Int) := u64_or_nat _ _ (word_lt _ _) (word_lt _ _)
      have HMO := Lib.hid (acc_more HM.out HO.out hi64)
      have HS2 : Hid (SetAt (wr.setCell ⟨a, i, none⟩ (.int .u64 ((word m i ||| word o i : Nat) : Int))) a (acc m o (i + 1)) r) := Lib.hid (HS.out.set hi64 (by rw [word_acc, if_pos (by omega)]) (fun j _ hj => by
        rw [word_acc, word_acc]
        by_cases h : j < i
        · rw [if_pos h, if_pos (by omega)]
        · rw [if_neg h, if_neg (by omega)]))
      have HG2 := Lib.hid (HG.out.trans (grown_setCell wr ⟨a, i, none⟩ (.int .u64 ((word m i ||| word o i : Nat) : Int))))
      have hn0 : (0 : Int) ≤ (i : Int) := by omega
      have hn1 : (i : Int) < 64 := by omega
      generalize word m i ||| word o i = V at *
      cases hfl : decide (acc m o i ≠ m) with
      | true =>
        rw [hfl, Bool.true_or] at HMO
        clear hfl
        go_wp2_with fail
        go_region
        go_wp2_with fail
        go_roundg (64 - (i + 1))
        case measure => omega
        case rel => exact ⟨i + 1, by omega, rfl, by go_num, by rw [HMO.out], grown_drew HG2.out, HS2.out⟩
      | false =>
        rw [hfl, Bool.false_or] at HMO
        clear hfl
        go_wp2_with fail
        go_region
        go_wp2_with fail
        go_roundg (64 - (i + 1))
        case measure => omega
        case rel => exact ⟨i + 1, by omega, rfl, by go_num, by rw [HMO.out], grown_drew HG2.out, HS2.out⟩
    · obtain rfl : i = (r + 63) / 64 := by omega
      have he : acc m o ((r + 63) / 64) = m ||| o := acc_all (Nat.lt_of_lt_of_le HOR.out (Nat.pow_le_pow_right (by decide) (by omega)))
      rw [he] at HS
      have HE := Lib.hid he
      clear he hg hs
      go_wp2_with fail
      go_ret
      exact ⟨ret_bool (by rw [HE.out]), HG.out, HS.out⟩
end Go.Proofs.YthgbmhpfblgjcaaGreatDoor.fl
