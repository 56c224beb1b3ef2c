/-
  Contracts of slices.Index and Contains over numbers, and of jumps of package flow. Condition: the row stands.
-/
import Derived.Test.YthgbmhpfblgjcaaGreatDoorFlC
import Derived.Shelf.Spec.TrailingZeros
set_option linter.unusedVariables false
set_option linter.unusedSimpArgs false
namespace Go.Proofs.YthgbmhpfblgjcaaGreatDoor.fl
open Go.RowKit Go.Shelf
open M T ty
set_option linter.unusedVariables false
set_option maxHeartbeats 1000000 in
theorem tz_core (x k idx : Nat) (w : World) (hx0 : ((x : Int) == 0) = false)
    (key : IntKind.u64.wrap (bits BinOp.and IntKind.u64 (x : Int) (IntKind.u64.wrap (-(x : Int))) * 285870213051353865) / 288230376151711744 = (idx : Int))
    (hi : idx < 64) (hk : k < 64) (hcell : w.cell? ⟨0, idx, none⟩ = some (.int .u8 k)) :
    Calls Tryz.prog 57 #[.int .u64 x] w fun e w' => e = .returned (.int .i64 k) ∧ w' = w := by
  go_enter Tryz.func57, Tryz.ntmps57
  go_wp2_with (simp only [key])
  go_ret
  exact ⟨rfl, rfl⟩
/-- the table stands -/
def TabIn (w : World) : Prop := TabAt 0 Lib.deBruijn64tab w
theorem tz_57 (x : Nat) (hx : x < 18446744073709551616) (hx0 : x ≠ 0) (w : World) (hT : TabIn w) :
    Calls Tryz.prog 57 #[.int .u64 x] w fun e w' => e = .returned (.int .i64 (Lib.ctz 64 x)) ∧ w' = w := by
  obtain ⟨hlow, hk⟩ := Lib.lowest_bit 64 x hx0 hx
  obtain ⟨hi, htab⟩ := Lib.deBruijn64_at _ hk
  have hcell := hT _ hi
  rw [htab] at hcell
  exact tz_core x _ _ w (by simp; omega) (tz64_key x _ hx hx0 hlow) hi hk hcell
end Go.Proofs.YthgbmhpfblgjcaaGreatDoor.fl
namespace Go.Proofs.YthgbmhpfblgjcaaGreatDoor.fl
set_option linter.unusedVariables false
/-- the members of a word, rising -/
def bitsOf (x : Nat) : List Nat := (List.range 64).filter x.testBit
theorem bitsOf_zero : bitsOf 0 = [] := by unfold bitsOf; simp
theorem low_bits (x : Nat) (h0 : x ≠ 0) (hx : x < 18446744073709551616) : Lib.ctz 64 x < 64 ∧ (∀ j, j < Lib.ctz 64 x → x.testBit j = false) ∧ x.testBit (Lib.ctz 64 x) = true ∧ ∀ j, (x &&& (x - 1)).testBit j = (x.testBit j && !decide (j = Lib.ctz 64 x)) := by
  have e : Lib.ctz 64 x = Lib.ctzFrom 64 x := by simp [Lib.ctz, h0]
  obtain ⟨q, hq, hk⟩ := Lib.ctzFrom_spec 64 x (by omega) hx
  rw [e]
  generalize Lib.ctzFrom 64 x = k at hq hk
  have hp : 0 < 2 ^ k := Nat.two_pow_pos k
  have hlt : 2 ^ k < 2 ^ (k + 1) := Nat.pow_lt_pow_right (by decide) (by omega)
  have e1 : x = 2 ^ (k + 1) * q + 2 ^ k := by rw [hq, Nat.pow_succ, Nat.mul_add, Nat.mul_one, Nat.mul_assoc]
  have e2 : x - 1 = 2 ^ (k + 1) * q + (2 ^ k - 1) := by omega
  have t1 : ∀ j, x.testBit j = if j < k + 1 then decide (k = j) else q.testBit (j - (k + 1)) := fun j => by
    rw [e1, Nat.testBit_two_pow_mul_add _ hlt, Nat.testBit_two_pow]
  have t2 : ∀ j, (x - 1).testBit j = if j < k + 1 then decide (j < k) else q.testBit (j - (k + 1)) := fun j => by
    rw [e2, Nat.testBit_two_pow_mul_add _ (by omega), Nat.testBit_two_pow_sub_one]
  refine ⟨hk, fun j hj => ?_, ?_, fun j => ?_⟩
  · rw [t1, if_pos (by omega), decide_eq_false (by omega)]
  · rw [t1, if_pos (by omega)]; simp
  · rw [Nat.testBit_and, t2, t1]
    by_cases h : j < k + 1
    · rw [if_pos h, if_pos h]
      by_cases h2 : k = j
      · subst h2; simp
      · simp [h2]
    · rw [if_neg h, if_neg h]
      rw [decide_eq_false (show ¬ j = k by omega)]
      simp
theorem bitsOf_low (x : Nat) (h0 : x ≠ 0) (hx : x < 18446744073709551616) : bitsOf x = Lib.ctz 64 x :: bitsOf (x &&& (x - 1)) := by
  obtain ⟨hk, h1, h2, h3⟩ := low_bits x h0 hx
  generalize Lib.ctz 64 x = k at *
  unfold bitsOf
  have e : List.range 64 = List.range' 0 k ++ k :: List.range' (k + 1) (63 - k) := by
    rw [List.range_eq_range']
    have a1 : List.range' 0 64 = List.range' 0 k ++ List.range' (0 + k) (64 - k) := by
      rw [List.range'_append_1]
      congr 1
      omega
    rw [a1, Nat.zero_add, show 64 - k = (63 - k) + 1 by omega, List.range'_succ]
  rw [e, List.filter_append, List.filter_append, List.filter_cons, List.filter_cons]
  have f1 : (List.range' 0 k).filter x.testBit = [] := by
    rw [List.filter_eq_nil_iff]
    intro j hj
    rw [h1 j (by have := List.mem_range'_1.1 hj; omega)]
    decide
  have f2 : (List.range' 0 k).filter (x &&& (x - 1)).testBit = [] := by
    rw [List.filter_eq_nil_iff]
    intro j hj
    rw [h3, h1 j (by have := List.mem_range'_1.1 hj; omega)]
    simp
  have f3 : (List.range' (k + 1) (63 - k)).filter (x &&& (x - 1)).testBit = (List.range' (k + 1) (63 - k)).filter x.testBit := by
    apply List.filter_congr
    intro j hj
    rw [h3, decide_eq_false (show ¬ j = k by have := List.mem_range'_1.1 hj; omega)]
    simp
  rw [f1, f2, f3, h2, h3, h2]
  simp
theorem and_pred_lt (x : Nat) (h0 : x ≠ 0) : x &&& (x - 1) < x := Nat.lt_of_le_of_lt Nat.and_le_right (by omega)
end Go.Proofs.YthgbmhpfblgjcaaGreatDoor.fl
namespace Go.Proofs.YthgbmhpfblgjcaaGreatDoor.fl
open Go.RowKit Go.Shelf
open M T ty
/-- the members of a set's first i words, rising -/
def mem (m i : Nat) : List Int := (List.range i).flatMap fun j => (bitsOf (word m j)).map fun k => ((j * 64 + k : Nat) : Int)
theorem mem_succ (m i : Nat) : mem m (i + 1) = mem m i ++ (bitsOf (word m i)).map fun k => ((i * 64 + k : Nat) : Int) := by
  unfold mem
  rw [List.range_succ, List.flatMap_append]
  simp
theorem bitsOf_len (x : Nat) : (bitsOf x).length ≤ 64 := Nat.le_trans (List.length_filter_le _ _) (by simp)
theorem mem_len (m i : Nat) : (mem m i).length ≤ 64 * i := by
  induction i with
  | zero => simp [mem]
  | succ i ih =>
    rw [mem_succ, List.length_append, List.length_map]
    have := bitsOf_len (word m i)
    omega
set_option maxRecDepth 20000 in
set_option maxHeartbeats 4000000 in
theorem list_26 (a m r : Nat) (w : World) (hr : r ≤ 4096) (hT : TabIn w) (h0 : 0 < w.heap.size) (h : SetAt w a m r) :
    Calls Tryz.prog 26 #[.pointer (some ⟨a, 0, none⟩)] w fun e w' => ∃ v, e = .returned v ∧ IntsAt w' w.heap.size v (mem m ((r + 63) / 64)) ∧ Below w.heap.size w w' := by
  have H := Lib.hid h
  have HT := Lib.hid hT
  have H0 := Lib.hid h0
  have c64 := h.most
  clear h hT h0
  go_enter Tryz.func26, Tryz.ntmps26
  go_wp2_with fail
  go_loopg [12, 3] 64 (fun N t u wr => ∃ i : Nat, i ≤ (r + 63) / 64 ∧ N = 64 - i ∧ t = .int .i64 i ∧ Below w.heap.size w wr ∧ wr.ownsRow w.heap.size 3 1 u (mem m i).length (ints (mem m i)))
  case atStart => exact ⟨0, by omega, rfl, rfl, Below.refl _ _, rfl, .inl ⟨rfl, rfl⟩⟩
  case round =>
    obtain ⟨i, hi, rfl, rfl, hb, hown⟩ := hrel
    have HB := Lib.hid hb
    have HO := Lib.hid hown
    clear c64 hb hown
    by_cases hlt : i < (r + 63) / 64
    · have hi64 : i < 64 := by omega
      have hn0 : (0 : Int) ≤ (i : Int) := by omega
      have hn1 : (i : Int) < 64 := by omega
      have hnI : (i : Int) < ((r : Int) + 63) / 64 := by omega
      have hal : a < w.heap.size := (Array.getElem?_eq_some_iff.1 H.out).1
      have HSr : Hid (SetAt wr a m r) := Lib.hid ((HB.out.block a hal).trans H.out)
      have c1 := HSr.out.wd hi64
      go_wp2_with fail
      go_loopg [5, 3] (word m i) (fun N t u wr => ∃ (x : Nat) (l : List Int), x = N ∧ t = .int .u64 x ∧ x < 18446744073709551616 ∧ Below w.heap.size w wr ∧ wr.ownsRow w.heap.size 3 1 u l.length (ints l) ∧ l ++ (bitsOf x).map (fun k => ((i * 64 + k : Nat) : Int)) = mem m (i + 1))
      case atStart => exact ⟨word m i, mem m i, rfl, rfl, word_lt _ _, HB.out, HO.out, (mem_succ m i).symm⟩
      case round =>
        obtain ⟨x, l, rfl, rfl, hx, hb2, hown2, hl⟩ := hrel
        have HX := Lib.hid hx
        have HB2 := Lib.hid hb2
        have HO2 := Lib.hid hown2
        have HL := Lib.hid hl
        have hs2 := hb2.size
        clear hb2 hown2 hl c1
        by_cases hx0 : x = 0
        · subst hx0
          rw [bitsOf_zero, List.map_nil, List.append_nil] at HL
          go_wp2_with fail
          go_roundg (64 - (i + 1))
          case measure => omega
          case rel => exact ⟨i + 1, by omega, rfl, by go_num, HB2.out, by rw [← HL.out]; exact HO2.out⟩
        · have hlow := bitsOf_low x hx0 hx
          have hc64 := (low_bits x hx0 hx).1
          have HTZ := Lib.hid (fun W (hW : Below w.heap.size w W) => tz_57 x hx hx0 W (fun j hj => (hW.cell (p := ⟨0, j, none⟩) H0.out).trans (HT.out j hj)))
          rw [hlow, List.map_cons] at HL
          have HLT := Lib.hid (and_pred_lt x hx0)
          have hne : ((x : Int) != 0) = true := by simp [hx0]
          have hsub : IntKind.u64.wrap ((x : Int) - 1) = ((x - 1 : Nat) : Int) := by rw [IntKind.wrap_u64]; omega
          have hand : bits .and .u64 (x : Int) ((x - 1 : Nat) : Int) = ((x &&& (x - 1) : Nat) : Int) := u64_and_nat x (x - 1) hx (by omega)
          clear hlow
          generalize Lib.ctz 64 x = k at *
          have hk0 : (0 : Int) ≤ (k : Int) := by omega
          have hk1 : (k : Int) < 64 := by omega
          have HLEN : Hid ((l.length + 1) * 8 ≤ 140737488355328) := Lib.hid (by
            have := congrArg List.length HL.out
            rw [List.length_append, List.length_cons] at this
            have := mem_len m (i + 1)
            omega)
          go_wp2_with (first
            | (go_at_call 57; refine (HTZ.out _ HB2.out).mono ?_; rintro e w1 ⟨rfl, rfl⟩)
            | (at_builtin; (refine wpList_app_one (w := w1.alloc (.cells #[.int .i64 ((i : Int) * 64 + (k : Int))] 3)) rfl (.tmp 27) (.tmp 33) rfl (r := (i : Int) * 64 + (k : Int)) rfl (HO2.out.alloc _) rfl (heap_alloc_new w1 _) HLEN.out (by simp; omega) ?_); intro v1 w2 ho1 hg1))
          have hb1 : Below w.heap.size w w2 := (HB2.out.alloc HB2.out.size _).grown hg1 (by have := HB2.out.size; simp; omega) (fun g hg => (HO2.out.lt g hg).1)
          go_roundg (x &&& (x - 1))
          case measure => exact HLT.out
          case rel => exact ⟨x &&& (x - 1), _, rfl, by first | rfl | simp only [hsub, hand], by have := HLT.out; omega, hb1, ho1, by rw [List.append_assoc]; exact HL.out⟩
    · obtain rfl : i = (r + 63) / 64 := by omega
      go_wp2_with fail
      go_ret
      obtain ⟨A9, c9, he9, -, -⟩ := own_form HO.out
      refine ⟨_, rfl, ?_, HB.out⟩
      rw [he9]
      rw [he9] at HO
      exact ⟨A9, c9, rfl, HO.out⟩
end Go.Proofs.YthgbmhpfblgjcaaGreatDoor.fl
namespace Go.Proofs.YthgbmhpfblgjcaaGreatDoor.fl
open Go.RowKit Go.Shelf
open M T ty
set_option linter.unusedVariables false
set_option maxHeartbeats 1600000 in
theorem index_90 (A : Option Addr) (cap : Nat) (l : List Int) (y : Int) (B : Nat) (w : World) (hn : l.length ≤ maxLen) (hA : Rd w B A (ints l)) :
    Calls Tryz.prog 90 #[.slice A l.length cap, .int .i64 y] w fun e w' => e = .returned (.int .i64 (if l.findIdx (· == y) < l.length then (l.findIdx (· == y) : Int) else -1)) ∧ w' = w := by
  unfold maxLen at hn
  have HA := Lib.hid hA
  clear hA
  generalize hans : (if l.findIdx (· == y) < l.length then (l.findIdx (· == y) : Int) else -1) = ans
  have Hans := Lib.hid hans
  clear hans
  go_enter Tryz.func90, Tryz.ntmps90
  go_wp2_with fail
  go_loopw [8] (fun i wr => ∃ (k : Nat), k ≤ l.length ∧ i = .int .i64 k ∧ k ≤ l.findIdx (· == y) ∧ wr = w) (fun i _ => l.length - (intOf i).toNat)
  case atStart => exact ⟨0, by omega, rfl, by omega, rfl⟩
  case round =>
    obtain ⟨k, hk, rfl, hi, rfl⟩ := hrel
    have Hi := Lib.hid hi
    clear hi
    by_cases hlt : k < l.length
    · obtain ⟨ad, r, x, rfl, hxk, hp, -, a1⟩ := rd_int HA.out (k := k) hlt
      have hx : l[k]'hlt = x := (List.getElem?_eq_some_iff.1 hxk).2
      cases hpx : x == y with
      | true =>
        have Hfin : Hid (ans = (k : Int)) := Lib.hid (by
          have h1 : l.findIdx (· == y) ≤ k := by
            rcases Nat.lt_or_ge k (l.findIdx (· == y)) with h | h
            · have := List.not_of_lt_findIdx h
              simp only [hx, hpx] at this
              cases this
            · exact h
          have := Hi.out
          rw [← Hans.out, if_pos (by omega)]
          omega)
        have hpy : (y == x) = true := by rw [beq_iff_eq] at hpx ⊢; exact hpx.symm
        clear hxk hx hpx
        go_wp2_with fail
        go_ret
        exact ⟨ret_int Hfin.out.symm, rfl⟩
      | false =>
        have Hfin : Hid (k + 1 ≤ l.findIdx (· == y)) := Lib.hid (by
          have := Hi.out
          rcases Nat.lt_or_ge k (l.findIdx (· == y)) with h | h
          · exact h
          · have e : k = l.findIdx (· == y) := by omega
            have := List.findIdx_getElem (p := (· == y)) (xs := l) (w := by omega)
            simp only [← e, hx, hpx] at this
            cases this)
        have hpy : (y == x) = false := by rw [beq_eq_false_iff_ne] at hpx ⊢; exact fun h => hpx h.symm
        clear hxk hx hpx
        go_wp2_with fail
        go_roundw
        case rel => exact ⟨k + 1, by omega, by go_num, Hfin.out, by trivial⟩
        case measure => simp [intOf]; omega
    · obtain rfl : k = l.length := by omega
      go_wp2_with fail
      go_ret
      exact ⟨ret_int (by have := Hi.out; rw [← Hans.out, if_neg (by omega)]), by trivial⟩
theorem contains_50 (A : Option Addr) (cap : Nat) (l : List Int) (y : Int) (B : Nat) (w : World) (hn : l.length ≤ maxLen) (hA : Rd w B A (ints l)) :
    Calls Tryz.prog 50 #[.slice A l.length cap, .int .i64 y] w fun e w' => e = .returned (.bool (decide (y ∈ l))) ∧ w' = w := by
  have HI := Lib.hid (index_90 A cap l y B w hn hA)
  have hm : decide (y ∈ l) = decide (l.findIdx (· == y) < l.length) := by
    rw [decide_eq_decide, List.findIdx_lt_length]
    simp
  rw [hm]
  by_cases h : l.findIdx (· == y) < l.length
  · rw [if_pos h] at HI
    rw [decide_eq_true h]
    clear hn hA hm
    generalize l.findIdx (· == y) = k at *
    clear h
    go_enter Tryz.func50, Tryz.ntmps50
    go_wp2_with (go_at_call 90; refine HI.out.mono ?_; rintro e w1 ⟨rfl, rfl⟩)
    go_ret
    exact ⟨rfl, rfl⟩
  · rw [if_neg h] at HI
    rw [decide_eq_false h]
    clear hn hA h hm
    go_enter Tryz.func50, Tryz.ntmps50
    go_wp2_with (go_at_call 90; refine HI.out.mono ?_; rintro e w1 ⟨rfl, rfl⟩)
    go_ret
    exact ⟨rfl, rfl⟩
theorem lit_text (s : ByteArray) (a : Array UInt8) (l : List UInt8) (h : a.toList = l) : (s.toList == l) = decide (s = ⟨a⟩) := by
  subst h
  rw [ByteArray.toList_eq, Bool.eq_iff_iff, beq_iff_eq, decide_eq_true_iff]
  constructor
  · intro e
    cases s
    simp at e
    rw [e]
  · rintro rfl
    rfl
set_option maxHeartbeats 8000000 in
theorem jumps_55 (o : Op) (AA : Option Addr) (ac : Nat) (w : World) :
    Calls Tryz.prog 55 #[opV o AA ac] w fun e w' => e = .returned (.bool (jumps o)) ∧ Below w.heap.size w w' := by
  have HB := Lib.hid ((Below.refl w.heap.size w).alloc (Nat.le_refl _) (.cells #[.int .i64 o.k, .int .i64 o.d, .int .i64 o.a, .int .i64 o.b, .int .i64 o.imm, .string o.text, .slice AA o.args.length ac] 72))
  have e1 := lit_text o.text #[108, 111, 110, 103, 106, 109, 112] _ rfl
  have e2 := lit_text o.text #[99, 111, 95, 114, 101, 115, 117, 109, 101] _ rfl
  have e3 := lit_text o.text #[99, 111, 95, 121, 105, 101, 108, 100] _ rfl
  have h1 : (o.k == 28) = decide (o.k = 28) := rfl
  have h2 : (o.k == 29) = decide (o.k = 29) := rfl
  unfold jumps opV
  cases g1 : decide (o.k = 28) with
  | true =>
    rw [g1] at h1
    clear e1 e2 e3 h2 g1
    go_enter Tryz.func55, Tryz.ntmps55
    go_wp2_with fail
    go_ret
    exact ⟨rfl, HB.out⟩
  | false =>
    rw [g1] at h1
    clear g1
    cases g2 : decide (o.k = 29) with
    | false =>
      rw [g2] at h2
      clear e1 e2 e3 g2
      go_enter Tryz.func55, Tryz.ntmps55
      go_wp2_with fail
      go_ret
      exact ⟨rfl, HB.out⟩
    | true =>
      rw [g2] at h2
      clear g2
      cases g3 : decide (o.text = ⟨#[108, 111, 110, 103, 106, 109, 112]⟩) <;> cases g4 : decide (o.text = ⟨#[99, 111, 95, 114, 101, 115, 117, 109, 101]⟩) <;> cases g5 : decide (o.text = ⟨#[99, 111, 95, 121, 105, 101, 108, 100]⟩)
      all_goals
        rw [g3] at e1
        rw [g4] at e2
        rw [g5] at e3
        clear g3 g4 g5
        go_enter Tryz.func55, Tryz.ntmps55
        go_wp2_with fail
        go_ret
        exact ⟨rfl, HB.out⟩
end Go.Proofs.YthgbmhpfblgjcaaGreatDoor.fl
