/-
  Contracts of Parse of word and of the reference: both read a text as parseR says. No condition.
-/
import Derived.Test.YtinjfmcmjhehoaaWordTextsA
namespace Go.Proofs.Ytinjfmcmjhehoaa.wt
open Go.ChangeShapes Go.WideShapes Go.ChangeAt Go.RowKit
open M W gaps
set_option linter.unusedVariables false
theorem beq_list_false {a b : List UInt8} (h : ¬ a = b) : (a == b) = false := by simpa using h
theorem ext2 (s : ByteArray) (h : s.size = 10) : ((s.extract 0 2).toList == [48, 120]) = decide ((nums s).take 2 = [48, 120]) := by
  rw [ByteArray.toList_eq]
  have e : (s.extract 0 2).data.toList = s.data.toList.take 2 := by
    simp [ByteArray.data_extract]
  rw [e]
  have h2 : ∀ l : List UInt8, (l == [48, 120]) = decide (l.map (fun b => (b.toNat : Int)) = [48, 120]) := by
    intro l
    rw [Bool.eq_iff_iff, decide_eq_true_iff, beq_iff_eq]
    constructor
    · rintro rfl; rfl
    · intro hl
      rcases l with _ | ⟨x, _ | ⟨y, _ | ⟨z, r⟩⟩⟩
      · simp at hl
      · simp at hl
      · simp only [List.map_cons, List.map_nil, List.cons.injEq, and_true] at hl
        have hx : x.toNat = 48 := by omega
        have hy : y.toNat = 120 := by omega
        have ex : x = 48 := UInt8.toNat_inj.1 hx
        have ey : y = 120 := UInt8.toNat_inj.1 hy
        rw [ex, ey]
      · simp at hl
  rw [h2]
  unfold nums
  rw [List.map_take]
/-- one digit more -/
theorem parse_step {s : ByteArray} {k : Nat} (h : 2 + k < s.size) : ((nums s).drop 2).take (k + 1) = ((nums s).drop 2).take k ++ [(s[2 + k].toNat : Int)] := by
  rw [List.take_add_one, List.getElem?_drop, nums_get s (2 + k) h]
  rfl
theorem parse_any (s : ByteArray) (w : World) :
    Calls Try.prog 13 #[.string s] w fun e w' => e = .returned (.tuple #[.int .u32 (parseR (nums s)).1, .int .i64 (parseR (nums s)).2]) ∧ w = w' := by
  by_cases h : s.size = 10
  · by_cases hp : (nums s).take 2 = [48, 120]
    · have hb : ((s.extract 0 2).toList == [48, 120]) = true := by rw [ext2 s h]; exact decide_eq_true hp
      have Hp : Hid (∀ b, ((nums s).drop 2).all isHex = b → parseR (nums s) = if b = true then (val ((nums s).drop 2), 0) else (0, 2)) := Lib.hid (fun b hb => by
        unfold parseR
        subst hb
        by_cases hh : ((nums s).drop 2).all isHex = true
        · rw [if_pos ⟨by rw [nums_length]; exact h, hp, hh⟩, if_pos hh]
        · rw [if_neg (fun x => hh x.2.2), if_neg hh])
      have Hl : Hid (((nums s).drop 2).length = 8) := Lib.hid (by rw [List.length_drop, nums_length]; omega)
      have Hst : Hid (∀ k, k < 8 → ∃ hk : 2 + k < s.size, ((nums s).drop 2).take (k + 1) = ((nums s).drop 2).take k ++ [(s[2 + k].toNat : Int)]) := Lib.hid (fun k hk => ⟨by omega, parse_step (by omega)⟩)
      clear hp
      generalize (nums s).drop 2 = L at *
      generalize parseR (nums s) = R at *
      go_enter Try.func13, Try.ntmps13
      go_wp2_with fail
      go_loop [4, 15] (fun v i => ∃ (k : Nat), k ≤ 8 ∧ i = .int .i64 k ∧ v = .int .u32 (val (L.take k)) ∧ (L.take k).all isHex = true) (fun _ i => 8 - (intOf i).toNat)
      case atStart => exact ⟨0, by omega, rfl, rfl, rfl⟩
      case round =>
        obtain ⟨k, hk, rfl, rfl, hall⟩ := hrel
        have Hall := Lib.hid hall
        clear hall
        by_cases hlt : k < 8
        · obtain ⟨hi, he⟩ := Hst.out k hlt
          have He := Lib.hid he
          have Hv : Hid (val (L.take (k + 1)) = val (L.take k) * 16 + dg (s[2 + k].toNat : Int)) := Lib.hid (by rw [He.out, val_snoc])
          have Ha : Hid ((L.take (k + 1)).all isHex = isHex (s[2 + k].toNat : Int)) := Lib.hid (by rw [He.out, List.all_append, Hall.out]; simp)
          have Hno : Hid (isHex (s[2 + k].toNat : Int) = false → L.all isHex = false) := Lib.hid (fun hx => by
            rw [List.all_eq_false]
            refine ⟨(s[2 + k].toNat : Int), ?_, by simp [hx]⟩
            have : (s[2 + k].toNat : Int) ∈ L.take (k + 1) := by rw [He.out]; simp
            exact List.mem_of_mem_take this)
          obtain ⟨n0, n1⟩ := val_small (l := L.take k) (by rw [List.length_take]; omega)
          clear he
          generalize val (L.take k) = n at *
          have c0 : (0 : Int) ≤ (s[2 + k].toNat : Int) := by omega
          have c1 : (s[2 + k].toNat : Int) ≤ 255 := by have := s[2 + k].toNat_lt; omega
          by_cases h1 : 48 ≤ (s[2 + k].toNat : Int) ∧ (s[2 + k].toNat : Int) ≤ 57
          · obtain ⟨h11, h12⟩ := h1
            have Hh : Hid (isHex (s[2 + k].toNat : Int) = true) := Lib.hid (by simp [isHex]; omega)
            have Hdg : Hid (dg (s[2 + k].toNat : Int) = (s[2 + k].toNat : Int) - 48) := Lib.hid (by rw [dg_hex Hh.out, if_neg (by omega)])
            have ho := or_digit n ((s[2 + k].toNat : Int) - 48) n0 n1 (by omega) (by omega)
            go_wp2_with fail
            go_round
            case rel => exact ⟨k + 1, by omega, by go_num, by rw [Hv.out, Hdg.out], by rw [Ha.out]; exact Hh.out⟩
            case measure => simp [intOf]; omega
          · by_cases h2 : 97 ≤ (s[2 + k].toNat : Int) ∧ (s[2 + k].toNat : Int) ≤ 102
            · obtain ⟨h21, h22⟩ := h2
              have Hh : Hid (isHex (s[2 + k].toNat : Int) = true) := Lib.hid (by simp [isHex]; omega)
              have Hdg : Hid (dg (s[2 + k].toNat : Int) = (s[2 + k].toNat : Int) - 97 + 10) := Lib.hid (by rw [dg_hex Hh.out, if_pos (by omega)]; omega)
              have ho := or_digit n ((s[2 + k].toNat : Int) - 97 + 10) n0 n1 (by omega) (by omega)
              clear h1
              go_wp2_with fail
              go_round
              case rel => exact ⟨k + 1, by omega, by go_num, by rw [Hv.out, Hdg.out], by rw [Ha.out]; exact Hh.out⟩
              case measure => simp [intOf]; omega
            · have Hh : Hid (isHex (s[2 + k].toNat : Int) = false) := Lib.hid (by unfold isHex; exact decide_eq_false (by omega))
              have HR : Hid (R = (0, 2)) := Lib.hid (by rw [Hp.out _ (Hno.out Hh.out)]; rfl)
              go_wp2_with fail
              all_goals
                go_ret2
                exact ⟨by rw [HR.out]; rfl, rfl⟩
        · obtain rfl : k = 8 := by omega
          have e8 : L.take 8 = L := List.take_of_length_le (by rw [Hl.out]; omega)
          rw [e8] at Hall ⊢
          have HR : Hid (R = (val L, 0)) := Lib.hid (by rw [Hp.out _ Hall.out]; rfl)
          clear e8
          generalize val L = v at *
          go_wp2_with fail
          go_ret2
          exact ⟨by rw [HR.out]; rfl, rfl⟩
    · have hb : ((s.extract 0 2).toList == [48, 120]) = false := by rw [ext2 s h]; exact decide_eq_false hp
      rw [show parseR (nums s) = (0, 2) from by unfold parseR; rw [if_neg (fun x => hp x.2.1)]]
      clear hp
      go_enter Try.func13, Try.ntmps13
      go_wp2_with fail
      go_ret2
      exact ⟨rfl, rfl⟩
  · have hb : ((s.size : Int) != 10) = true := by simp; omega
    rw [show parseR (nums s) = (0, 2) from by unfold parseR; rw [if_neg (fun x => h (by rw [← nums_length]; exact x.1))]]
    clear h
    go_enter Try.func13, Try.ntmps13
    go_wp2_with fail
    go_ret2
    exact ⟨rfl, rfl⟩
theorem rparse_step {s : ByteArray} {k : Nat} (h2 : 2 ≤ k) (h : k < s.size) : ((nums s).drop 2).take (k + 1 - 2) = ((nums s).drop 2).take (k - 2) ++ [(s[k].toNat : Int)] := by
  obtain ⟨j, rfl⟩ : ∃ j, k = j + 2 := ⟨k - 2, by omega⟩
  rw [show j + 2 + 1 - 2 = j + 1 from by omega, show j + 2 - 2 = j from by omega, List.take_add_one, List.getElem?_drop, show 2 + j = j + 2 from by omega, nums_get s (j + 2) h]
  rfl
theorem rparse_any (s : ByteArray) (w : World) :
    Calls Try.prog 14 #[.string s] w fun e w' => e = .returned (.tuple #[.int .u32 (parseR (nums s)).1, .int .i64 (parseR (nums s)).2]) ∧ Below w.heap.size w w' := by
  rw [← parse_eq]
  by_cases h : s.size = 10
  · have Hl : Hid (((nums s).drop 2).length = 8) := Lib.hid (by rw [List.length_drop, nums_length]; omega)
    have Hst : Hid (∀ k, 2 ≤ k → k < 10 → ∃ hk : k < s.size, ((nums s).drop 2).take (k + 1 - 2) = ((nums s).drop 2).take (k - 2) ++ [(s[k].toNat : Int)]) := Lib.hid (fun k h2 hk => ⟨by omega, rparse_step h2 (by omega)⟩)
    have Hp : Hid (∀ b : Bool, (b = true ↔ hexS (val ((nums s).drop 2)) = nums s) → parseQ (nums s) = if b = true then (val ((nums s).drop 2), 0) else (0, 2)) := Lib.hid (fun b hb => by
      unfold parseQ
      by_cases hh : hexS (val ((nums s).drop 2)) = nums s
      · rw [if_pos ⟨by rw [nums_length]; exact h, hh⟩, if_pos (hb.2 hh)]
      · rw [if_neg (fun x => hh x.2), if_neg (fun x => hh (hb.1 x))])
    have Hc : Hid (∀ v, ((strOfNums (hexS v)).toList == s.toList) = true ↔ hexS v = nums s) := Lib.hid (fun v => by
      rw [ByteArray.toList_eq, ByteArray.toList_eq, beq_iff_eq]
      constructor
      · intro e
        have e2 : strOfNums (hexS v) = s := ByteArray.ext (Array.toList_inj.1 e)
        rw [← e2, nums_str (hexS_byte v)]
      · intro e
        have e2 : strOfNums (hexS v) = s := nums_inj (by rw [nums_str (hexS_byte v), e])
        rw [e2])
    generalize parseQ (nums s) = R at *
    generalize (nums s).drop 2 = L at *
    go_enter Try.func14, Try.ntmps14
    go_wp2_with fail
    go_loop [4, 5] (fun v i => ∃ (k : Nat), 2 ≤ k ∧ k ≤ 10 ∧ i = .int .i64 k ∧ v = .int .u32 (val (L.take (k - 2)))) (fun _ i => 10 - (intOf i).toNat)
    case atStart => exact ⟨2, by omega, by omega, rfl, rfl⟩
    case round =>
      obtain ⟨k, hk2, hk, rfl, rfl⟩ := hrel
      by_cases hlt : k < 10
      · obtain ⟨hi, he⟩ := Hst.out k hk2 hlt
        have Hv : Hid (val (L.take (k + 1 - 2)) = val (L.take (k - 2)) * 16 + dg (s[k].toNat : Int)) := Lib.hid (by rw [he, val_snoc])
        obtain ⟨n0, n1⟩ := val_small (l := L.take (k - 2)) (by rw [List.length_take]; omega)
        clear he
        generalize val (L.take (k - 2)) = n at *
        have c1 : (s[k].toNat : Int) ≤ 255 := by have := s[k].toNat_lt; omega
        by_cases h1 : 97 ≤ (s[k].toNat : Int)
        · go_wp2_with fail
          go_round
          case rel => exact ⟨k + 1, by omega, by omega, by go_num, by rw [Hv.out]; unfold dg; rw [if_pos h1]⟩
          case measure => simp [intOf]; omega
        · go_wp2_with fail
          go_round
          case rel => exact ⟨k + 1, by omega, by omega, by go_num, by rw [Hv.out]; unfold dg; rw [if_neg h1]⟩
          case measure => simp [intOf]; omega
      · obtain rfl : k = 10 := by omega
        have e8 : L.take (10 - 2) = L := List.take_of_length_le (by rw [Hl.out]; omega)
        rw [e8]
        clear e8
        obtain ⟨v0, v1⟩ := val_word (l := L) (by rw [Hl.out]; omega)
        have Hc1 := Lib.hid (Hc.out (val L))
        generalize val L = v at *
        have HX : Hid (∀ W : World, Calls Try.prog 19 #[.int .u32 v] W fun e w' => e = .returned (.string (strOfNums (hexS v))) ∧ Below W.heap.size W w') := Lib.hid (fun W => rhex_any v W v0 v1)
        by_cases hq : ((strOfNums (hexS v)).toList == s.toList) = true
        · have HR : Hid (R = (v, 0)) := Lib.hid (by rw [Hp.out true (by simp [← Hc1.out, hq])]; rfl)
          go_wp2_with (go_at_call 19; refine (HX.out _).mono ?_; rintro e w1 ⟨rfl, hb1⟩)
          go_ret2
          exact ⟨by rw [HR.out]; rfl, hb1⟩
        · have hq' : ((strOfNums (hexS v)).toList == s.toList) = false := by simpa using hq
          have HR : Hid (R = (0, 2)) := Lib.hid (by rw [Hp.out false (by rw [← Hc1.out]; simpa using hq')]; rfl)
          clear hq
          go_wp2_with (go_at_call 19; refine (HX.out _).mono ?_; rintro e w1 ⟨rfl, hb1⟩)
          go_ret2
          exact ⟨by rw [HR.out]; rfl, hb1⟩
  · have hb : ((s.size : Int) != 10) = true := by simp; omega
    rw [show parseQ (nums s) = (0, 2) from by unfold parseQ; rw [if_neg (fun x => h (by rw [← nums_length]; exact x.1))]]
    clear h
    go_enter Try.func14, Try.ntmps14
    go_wp2_with fail
    go_ret2
    exact ⟨rfl, Below.refl _ _⟩
end Go.Proofs.Ytinjfmcmjhehoaa.wt
