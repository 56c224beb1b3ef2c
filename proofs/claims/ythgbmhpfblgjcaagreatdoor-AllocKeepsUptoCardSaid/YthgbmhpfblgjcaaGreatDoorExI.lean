/-
  The closure of package ir's apart; slices.IndexFunc and ContainsFunc over blocks. Conditions: the blocks stand; the row of counts stands.
-/
import Derived.Test.YthgbmhpfblgjcaaGreatDoorExF
import Derived.Test.YthgbmhpfblgjcaaGreatDoorExD
import Derived.Test.YthgbmhpfblgjcaaGreatDoorExM
set_option linter.unusedVariables false
set_option linter.unusedSimpArgs false
namespace Go.Proofs.YthgbmhpfblgjcaaGreatDoor.fl
open Go.RowKit Go.Shelf
open M T ty
set_option linter.unusedVariables false
def opV (o : Op) (AA : Option Addr) (ac : Nat) : Value := .agg #[.int .i64 o.k, .int .i64 o.d, .int .i64 o.a, .int .i64 o.b, .int .i64 o.imm, .string o.text, .slice AA o.args.length ac]
theorem rule_bd {k : Int} {r : Rule} (h : ruleP k = some r) : r.imm ≤ 5 ∧ r.text ≤ 2 := by
  unfold ruleP at h
  by_cases h0 : 3 ≤ k ∧ k ≤ 19
  · rw [if_pos h0] at h
    rw [← Option.some.inj h]
    exact ⟨by decide, by decide⟩
  rw [if_neg h0] at h
  by_cases h1 : k = 1
  · rw [if_pos h1] at h
    rw [← Option.some.inj h]
    exact ⟨by decide, by decide⟩
  rw [if_neg h1] at h
  by_cases h2 : k = 2
  · rw [if_pos h2] at h
    rw [← Option.some.inj h]
    exact ⟨by decide, by decide⟩
  rw [if_neg h2] at h
  by_cases h20 : k = 20
  · rw [if_pos h20] at h
    rw [← Option.some.inj h]
    exact ⟨by decide, by decide⟩
  rw [if_neg h20] at h
  by_cases h21 : k = 21
  · rw [if_pos h21] at h
    rw [← Option.some.inj h]
    exact ⟨by decide, by decide⟩
  rw [if_neg h21] at h
  by_cases h22 : k = 22
  · rw [if_pos h22] at h
    rw [← Option.some.inj h]
    exact ⟨by decide, by decide⟩
  rw [if_neg h22] at h
  by_cases h23 : k = 23
  · rw [if_pos h23] at h
    rw [← Option.some.inj h]
    exact ⟨by decide, by decide⟩
  rw [if_neg h23] at h
  by_cases h24 : k = 24
  · rw [if_pos h24] at h
    rw [← Option.some.inj h]
    exact ⟨by decide, by decide⟩
  rw [if_neg h24] at h
  by_cases h25 : k = 25
  · rw [if_pos h25] at h
    rw [← Option.some.inj h]
    exact ⟨by decide, by decide⟩
  rw [if_neg h25] at h
  by_cases h26 : k = 26
  · rw [if_pos h26] at h
    rw [← Option.some.inj h]
    exact ⟨by decide, by decide⟩
  rw [if_neg h26] at h
  by_cases h27 : k = 27
  · rw [if_pos h27] at h
    rw [← Option.some.inj h]
    exact ⟨by decide, by decide⟩
  rw [if_neg h27] at h
  by_cases h28 : k = 28
  · rw [if_pos h28] at h
    rw [← Option.some.inj h]
    exact ⟨by decide, by decide⟩
  rw [if_neg h28] at h
  by_cases h29 : k = 29
  · rw [if_pos h29] at h
    rw [← Option.some.inj h]
    exact ⟨by decide, by decide⟩
  rw [if_neg h29] at h
  cases h
theorem imm_any {m : Nat} (hm : m ≤ 5) (x : Int) (w : World) : Calls Tryz.prog (immF m) #[.int .i64 x] w fun e w' => e = .returned (.bool (immB m x)) ∧ w' = w := by
  have h : m = 0 ∨ m = 1 ∨ m = 2 ∨ m = 3 ∨ m = 4 ∨ m = 5 := by omega
  rcases h with rfl | rfl | rfl | rfl | rfl | rfl
  · exact imm_151 x w
  · exact imm_153 x w
  · exact imm_154 x w
  · exact imm_155 x w
  · exact imm_156 x w
  · exact imm_157 x w
theorem text_any {m : Nat} (hm : m ≤ 2) (s : ByteArray) (w : World) (hK : KeysIn w) (hs : s.size ≤ maxLen) : Calls Tryz.prog (textF m) #[.string s] w fun e w' => e = .returned (.bool (textB m s)) ∧ Below w.heap.size w w' := by
  have h : m = 0 ∨ m = 1 ∨ m = 2 := by omega
  rcases h with rfl | rfl | rfl
  · exact (empty_152 s w).mono fun e w' ⟨p, q⟩ => ⟨p, by rw [q]; exact Below.refl _ _⟩
  · exact isname_any s w hK hs
  · exact (isbuilt_158 s w).mono fun e w' ⟨p, q⟩ => ⟨p, by rw [q]; exact Below.refl _ _⟩
theorem imm_enters {m : Nat} (hm : m ≤ 5) : Enters Tryz.prog (immF m) := by
  have h : m = 0 ∨ m = 1 ∨ m = 2 ∨ m = 3 ∨ m = 4 ∨ m = 5 := by omega
  rcases h with rfl | rfl | rfl | rfl | rfl | rfl
  · exact enters_of Tryz.func151 (by kernel_rfl) rfl
  · exact enters_of Tryz.func153 (by kernel_rfl) rfl
  · exact enters_of Tryz.func154 (by kernel_rfl) rfl
  · exact enters_of Tryz.func155 (by kernel_rfl) rfl
  · exact enters_of Tryz.func156 (by kernel_rfl) rfl
  · exact enters_of Tryz.func157 (by kernel_rfl) rfl
theorem text_enters {m : Nat} (hm : m ≤ 2) : Enters Tryz.prog (textF m) := by
  have h : m = 0 ∨ m = 1 ∨ m = 2 := by omega
  rcases h with rfl | rfl | rfl
  · exact enters_of Tryz.func152 (by kernel_rfl) rfl
  · exact enters_of Tryz.func121 (by kernel_rfl) rfl
  · exact enters_of Tryz.func158 (by kernel_rfl) rfl
set_option maxRecDepth 20000 in
set_option maxHeartbeats 4000000 in
theorem op_none (R sl st k d a b imm : Int) (text : ByteArray) (AA : Option Addr) (na ac : Nat) (w : World) (HRU : Hid (∀ W, Calls Tryz.prog 136 #[.int .i64 k] W fun e w' => e = .returned (.tuple #[.agg #[.string ⟨#[]⟩, .bool false, .bool false, .bool false, Value.nilFunc, Value.nilFunc, .bool false, .bool false], .bool false]) ∧ Below W.heap.size W w')) :
    Calls Tryz.prog 120 #[.agg #[.int .i64 R, .int .i64 sl, .int .i64 st], .agg #[.int .i64 k, .int .i64 d, .int .i64 a, .int .i64 b, .int .i64 imm, .string text, .slice AA na ac]] w fun e w' => e = .returned (.bool false) ∧ Below w.heap.size w w' := by
  go_enter Tryz.func120, Tryz.ntmps120
  go_wp2_with (go_at_call 136; refine (HRU.out _).mono ?_; rintro e w1 ⟨rfl, hb⟩)
  go_ret
  exact ⟨rfl, ((((Below.refl _ _).alloc (Nat.le_refl _) _).alloc (by simp) _).trans (hb.mono (by simp; omega))).alloc (by have := hb.size; simp at this; omega) _⟩
theorem op_120 (R sl st : Int) (o : Op) (AA : Option Addr) (ac : Nat) (w : World) (hK : KeysIn w) (ht : o.text.size ≤ maxLen) (hn : o.args.length ≤ maxLen) (hA : Rd w w.heap.size AA (ints o.args)) :
    Calls Tryz.prog 120 #[.agg #[.int .i64 R, .int .i64 sl, .int .i64 st], opV o AA ac] w fun e w' => e = .returned (.bool (opB R sl st o)) ∧ Below w.heap.size w w' := by
  obtain ⟨k, d, a, b, imm, text, args⟩ := o
  unfold opV
  simp only at ht hn hA ⊢
  obtain ⟨s, hrule⟩ := rule_136 k
  unfold RuleRes at hrule
  unfold opB
  simp only
  cases hr : ruleP k with
  | none =>
    simp only [hr] at hrule ⊢
    exact op_none R sl st k d a b imm text AA _ ac w (Lib.hid fun W => (hrule W).mono fun e w' ⟨p, q⟩ => ⟨q, p⟩)
  | some r =>
    simp only [hr] at hrule ⊢
    obtain ⟨hi, ht2⟩ := rule_bd hr
    obtain ⟨rd, ra, rb, rar, rmb, im, tx⟩ := r
    simp only [ruleV] at hrule hi ht2 ⊢
    have HRU : Hid (RuleO w R sl st k d a b imm text AA args.length ac args s rd ra rb rar rmb (immF im) (textF tx)) := Lib.hid fun W hW => (hrule W).mono fun e w' ⟨p, q⟩ => ⟨q, hW.after p⟩
    have HR : Hid (∀ r u m V, AtO w R sl st k d a b imm text AA args.length ac args V s rd ra rb rar rmb (immF im) (textF tx) 137 #[.agg #[.int .i64 R, .int .i64 sl, .int .i64 st], .int .i64 r, .bool u, .bool m] (.bool (regB R r u m))) := Lib.hid fun r u m V W hW => (reg_137 R sl st r u m W).mono fun e w' ⟨p, q⟩ => ⟨p, hW.after q⟩
    have HI : Hid (∀ V, AtO w R sl st k d a b imm text AA args.length ac args V s rd ra rb rar rmb (immF im) (textF tx) (immF im) #[.int .i64 imm] (.bool (immB im imm))) := Lib.hid fun V W hW => (imm_any hi imm W).mono fun e w' ⟨p, q⟩ => ⟨p, by rw [q]; exact hW⟩
    have HT : Hid (∀ V, AtO w R sl st k d a b imm text AA args.length ac args V s rd ra rb rar rmb (immF im) (textF tx) (textF tx) #[.string text] (.bool (textB tx text))) := Lib.hid fun V W hW => (text_any ht2 text W hW.e.keys ht).mono fun e w' ⟨p, q⟩ => ⟨p, hW.after q⟩
    have HC : Hid (∀ V, AtO w R sl st k d a b imm text AA args.length ac args V s rd ra rb rar rmb (immF im) (textF tx) 138 #[.slice AA args.length ac, .func (.func 139) #[] #[.pointer (some ⟨w.heap.size, 0, none⟩)]] (.bool (!args.all (fun a => regB R a true false)))) := Lib.hid fun V W hW => (args_138 R sl st w.heap.size AA args.length ac args W hW.e.p rfl hn hW.e.rd).mono fun e w' ⟨p, q⟩ => ⟨p, hW.after q⟩
    have HB : Hid (∀ V, AtO w R sl st k d a b imm text AA args.length ac args V s rd ra rb rar rmb (immF im) (textF tx) 140 #[.string text] (.tuple #[.int .i64 (builtP (nums text)).1, .bool (builtP (nums text)).2.1, .bool (builtP (nums text)).2.2])) := Lib.hid fun V W hW => (built_140 text W).mono fun e w' ⟨p, q⟩ => ⟨p, by rw [q]; exact hW⟩
    have hnil : decide (args = []) = decide (args.length = 0) := by
      rw [Bool.eq_iff_iff, decide_eq_true_iff, decide_eq_true_iff, List.length_eq_zero_iff]
    rw [hnil]
    have he := op_early (x1 := regB R d rd rmb) (x2 := regB R a ra false) (x3 := regB R b rb false) hK hA HRU HR (imm_enters hi) (text_enters ht2) HI HT HC HB rfl rfl rfl
    cases h1 : regB R d rd rmb with
    | false => rw [h1] at he; simpa using he rfl
    | true =>
    cases h2 : regB R a ra false with
    | false => rw [h1, h2] at he; simpa using he rfl
    | true =>
    cases h3 : regB R b rb false with
    | false => rw [h1, h2, h3] at he; simpa using he rfl
    | true =>
    cases h4 : immB im imm with
    | false => rw [h1, h2, h3, h4] at he; simpa using he rfl
    | true =>
    cases h5 : textB tx text with
    | false => rw [h1, h2, h3, h4, h5] at he; simpa using he rfl
    | true =>
    clear he
    rw [h4] at HI
    rw [h5] at HT
    simp only [Bool.true_and]
    cases ha : args.all (fun a => regB R a true false) with
    | false =>
      have := op_args hK hA HRU HR (imm_enters hi) (text_enters ht2) HI HT HC HB h1 h2 h3 (by rw [ha]; simp)
      simpa using this
    | true =>
      by_cases hz : rar = true ∨ rar = false ∧ ¬ (0 : Int) < (args.length : Int)
      · rw [ha] at HC
        have := op_last hK hA HRU HR (imm_enters hi) (text_enters ht2) HI HT HC HB h1 h2 h3 hz
        have e1 : (rar || decide (args.length = 0)) = true := by
          rcases hz with h | ⟨_, h⟩
          · rw [h]; rfl
          · rw [decide_eq_true (by omega), Bool.or_true]
        rw [e1]
        simpa using this
      · have e1 : (rar || decide (args.length = 0)) = false := by
          cases rar with
          | true => exact absurd (.inl rfl) hz
          | false =>
            rw [decide_eq_false (fun h => hz (.inr ⟨rfl, by omega⟩))]
            rfl
        have := op_args hK hA HRU HR (imm_enters hi) (text_enters ht2) HI HT HC HB h1 h2 h3 (by rw [e1]; simp)
        rw [e1]
        simpa using this
end Go.Proofs.YthgbmhpfblgjcaaGreatDoor.fl
namespace Go.Proofs.YthgbmhpfblgjcaaGreatDoor.fl
open Go.RowKit Go.Shelf
open M T ty
set_option linter.unusedVariables false
set_option maxRecDepth 4000 in
theorem clos_124 (R sl st : Int) (o : Op) (AA : Option Addr) (ac p : Nat) (w : World) (h : BoundsAt w p R sl st) (hK : KeysIn w) (ht : o.text.size ≤ maxLen) (hn : o.args.length ≤ maxLen) (hA : Rd w w.heap.size AA (ints o.args)) :
    Calls Tryz.prog 124 #[opV o AA ac, .pointer (some ⟨p, 0, none⟩)] w fun e w' => e = .returned (.bool (!opB R sl st o)) ∧ Below w.heap.size w w' := by
  have hp := (Array.getElem?_eq_some_iff.1 h).1
  have HO : Hid (∀ W, Below w.heap.size w W → Calls Tryz.prog 120 #[.agg #[.int .i64 R, .int .i64 sl, .int .i64 st], opV o AA ac] W fun e w' => e = .returned (.bool (opB R sl st o)) ∧ Below w.heap.size w w') :=
    Lib.hid fun W hb => (op_120 R sl st o AA ac W (hK.below hb) ht hn ((hA.below hb).more hb.size)).mono fun e w' ⟨x, y⟩ => ⟨x, hb.trans (y.mono hb.size)⟩
  have c0 := Go.Joins.cell_of_block h 0
  have c1 := Go.Joins.cell_of_block h 1
  have c2 := Go.Joins.cell_of_block h 2
  clear h hK ht hn hA
  unfold opV at *
  generalize opB R sl st o = bb at *
  obtain ⟨k, d, a, b, imm, text, args⟩ := o
  simp only at *
  go_enter Tryz.func124, Tryz.ntmps124
  go_wp2_with (go_at_call 120; refine (HO.out _ ((Below.refl _ _).alloc (Nat.le_refl _) _)).mono ?_; rintro e w1 ⟨rfl, hb⟩)
  go_ret
  exact ⟨rfl, hb⟩
set_option maxRecDepth 4000 in
set_option maxHeartbeats 1600000 in
theorem index_145 (R sl st : Int) (p : Nat) (A : Option Addr) (n cap : Nat) (l : List Op) (AA : Nat → Option Addr) (ac : Nat → Nat) (w : World) (hl : l.length = n) (hn : n ≤ maxLen) (hA : OpsAt w w.heap.size A l AA ac) (h : BoundsAt w p R sl st) (hK : KeysIn w)
    (ht : ∀ o ∈ l, o.text.size ≤ maxLen ∧ o.args.length ≤ maxLen) :
    Calls Tryz.prog 145 #[.slice A n cap, .func (.func 124) #[] #[.pointer (some ⟨p, 0, none⟩)]] w fun e w' => e = .returned (.int .i64 (if l.findIdx (fun o => !opB R sl st o) < n then (l.findIdx (fun o => !opB R sl st o) : Int) else -1)) ∧ Below w.heap.size w w' := by
  have HC : Hid (∀ W j o, l[j]? = some o → Below w.heap.size w W → Calls Tryz.prog 124 #[opV o (AA j) (ac j), .pointer (some ⟨p, 0, none⟩)] W fun e w' => e = .returned (.bool (!opB R sl st o)) ∧ Below W.heap.size W w') :=
    Lib.hid fun W j o ho hb => clos_124 R sl st o (AA j) (ac j) p W ((hb.block p (Array.getElem?_eq_some_iff.1 h).1).trans h) (hK.below hb) (ht o (List.mem_of_getElem? ho)).1 (ht o (List.mem_of_getElem? ho)).2 (((hA.args j o ho).below hb).more hb.size)
  unfold maxLen at hn
  have Hl := Lib.hid hl
  have HA := Lib.hid hA
  clear hl hA h hK ht
  generalize hq : (fun o => !opB R sl st o) = q at *
  have Hq : Hid (∀ o, (!opB R sl st o) = q o) := Lib.hid (fun o => by rw [← hq])
  clear hq
  generalize hans : (if l.findIdx q < n then (l.findIdx q : Int) else -1) = ans
  have Hans := Lib.hid hans
  clear hans
  go_enter Tryz.func145, Tryz.ntmps145
  go_wp2_with fail
  go_loopw [8] (fun i wr => ∃ (k : Nat), k ≤ n ∧ i = .int .i64 k ∧ k ≤ l.findIdx q ∧ Below w.heap.size w wr) (fun i _ => n - (intOf i).toNat)
  case atStart => exact ⟨0, by omega, rfl, by omega, Below.refl _ _⟩
  case round =>
    obtain ⟨k, hk, rfl, hi, hb⟩ := hrel
    have HB := Lib.hid hb
    have Hi := Lib.hid hi
    clear hb hi
    by_cases hlt : k < n
    · obtain ⟨ad, r, x, rfl, hxk, hp, -, a0, a1, a2, a3, a4, a5, a6⟩ := op_at (HA.out.after HB.out) (k := k) (by rw [Hl.out]; exact hlt)
      have hk' : k < l.length := by rw [Hl.out]; exact hlt
      have hx : l[k]'hk' = x := (List.getElem?_eq_some_iff.1 hxk).2
      have hc := HC.out wr k x hxk HB.out
      rw [Hq.out x] at hc
      unfold opV at hc
      have HCx := Lib.hid hc
      clear hc
      cases hpx : q x with
      | true =>
        rw [hpx] at HCx
        have Hfin : Hid (ans = (k : Int)) := Lib.hid (by
          have h1 : l.findIdx q ≤ k := by
            rcases Nat.lt_or_ge k (l.findIdx q) with h | h
            · have := List.not_of_lt_findIdx h
              rw [hx, hpx] at this
              cases this
            · exact h
          have := Hi.out
          rw [← Hans.out, if_pos (by omega)]
          omega)
        clear hxk hx hpx hk'
        go_wp2_with (go_at_call 124; refine HCx.out.mono ?_; rintro e w2 ⟨rfl, hb2⟩)
        go_ret
        exact ⟨ret_int Hfin.out.symm, HB.out.trans (hb2.mono HB.out.size)⟩
      | false =>
        rw [hpx] at HCx
        have Hfin : Hid (k + 1 ≤ l.findIdx q) := Lib.hid (by
          have := Hi.out
          rcases Nat.lt_or_ge k (l.findIdx q) with h | h
          · exact h
          · have e : k = l.findIdx q := by omega
            have := List.findIdx_getElem (p := q) (xs := l) (w := by omega)
            simp only [← e] at this
            rw [hx, hpx] at this
            cases this)
        clear hxk hx hpx hk'
        go_wp2_with (go_at_call 124; refine HCx.out.mono ?_; rintro e w2 ⟨rfl, hb2⟩)
        go_roundw
        case rel => exact ⟨k + 1, by omega, by go_num, Hfin.out, HB.out.trans (hb2.mono HB.out.size)⟩
        case measure => simp [intOf]; omega
    · obtain rfl : k = n := by omega
      go_wp2_with fail
      go_ret
      exact ⟨ret_int (by have := Hi.out; rw [← Hans.out, if_neg (by omega)]), HB.out⟩
theorem contains_123 (R sl st : Int) (p : Nat) (A : Option Addr) (n cap : Nat) (l : List Op) (AA : Nat → Option Addr) (ac : Nat → Nat) (w : World) (hl : l.length = n) (hn : n ≤ maxLen) (hA : OpsAt w w.heap.size A l AA ac) (h : BoundsAt w p R sl st) (hK : KeysIn w)
    (ht : ∀ o ∈ l, o.text.size ≤ maxLen ∧ o.args.length ≤ maxLen) :
    Calls Tryz.prog 123 #[.slice A n cap, .func (.func 124) #[] #[.pointer (some ⟨p, 0, none⟩)]] w fun e w' => e = .returned (.bool (!l.all (opB R sl st))) ∧ Below w.heap.size w w' := by
  have HI := Lib.hid (index_145 R sl st p A n cap l AA ac w hl hn hA h hK ht)
  rw [show (!l.all (opB R sl st)) = decide (l.findIdx (fun o => !opB R sl st o) < n) from by rw [← hl, Bool.eq_iff_iff, decide_eq_true_iff, List.findIdx_lt_length]; simp]
  by_cases hc : l.findIdx (fun o => !opB R sl st o) < n
  · rw [if_pos hc] at HI
    rw [show decide (l.findIdx (fun o => !opB R sl st o) < n) = true from by simp [hc]]
    clear hl hn hA h hK ht
    generalize l.findIdx (fun o => !opB R sl st o) = k at *
    clear hc
    go_enter Tryz.func123, Tryz.ntmps123
    go_wp2_with (go_at_call 145; refine HI.out.mono ?_; rintro e w1 ⟨rfl, hb⟩)
    go_ret
    exact ⟨rfl, hb⟩
  · rw [if_neg hc] at HI
    rw [show decide (l.findIdx (fun o => !opB R sl st o) < n) = false from by simp [hc]]
    clear hl hn hA h hK ht hc
    go_enter Tryz.func123, Tryz.ntmps123
    go_wp2_with (go_at_call 145; refine HI.out.mono ?_; rintro e w1 ⟨rfl, hb⟩)
    go_ret
    exact ⟨rfl, hb⟩
end Go.Proofs.YthgbmhpfblgjcaaGreatDoor.fl
namespace Go.Proofs.YthgbmhpfblgjcaaGreatDoor.fl
open Go.RowKit Go.Shelf
open M T ty
set_option linter.unusedVariables false
/-- a row of numbers fills block g; the variable in block q holds it -/
structure LedAt (W : World) (g q : Nat) (cs : List Int) : Prop where
  row : W.heap[g]? = some (.cells (ints cs).toArray 3 (0, 0))
  var : W.heap[q]? = some (.cells #[.slice (some ⟨g, 0, none⟩) cs.length cs.length] 27 (0, 0))
theorem LedAt.after {W W' : World} {g q : Nat} {cs : List Int} (h : LedAt W g q cs) (hb : Below W.heap.size W W') : LedAt W' g q cs :=
  ⟨(hb.block _ (Array.getElem?_eq_some_iff.1 h.row).1).trans h.row, (hb.block _ (Array.getElem?_eq_some_iff.1 h.var).1).trans h.var⟩
theorem LedAt.cell {W : World} {g q : Nat} {cs : List Int} (h : LedAt W g q cs) {j : Nat} {x : Int} (hj : cs[j]? = some x) : W.cell? ⟨g, j, none⟩ = some (.int .i64 x) := by
  rw [Go.Joins.cell_of_block h.row j]
  simp [ints, hj]
/-- is a block a set whose Else is led to more than once? -/
def overB (cs : List Int) (x : Bl) : Bool := decide (x.ex.k = 4) && decide (1 < (cs[x.ex.els.toNat]?).getD 0)
set_option maxRecDepth 4000 in
set_option maxHeartbeats 1600000 in
theorem clos_147 (x : Bl) (OA : Option Addr) (oc g q : Nat) (cs : List Int) (w : World) (h : LedAt w g q cs) (hx : x.ex.k = 4 → 0 ≤ x.ex.els ∧ x.ex.els < cs.length) :
    Calls Tryz.prog 147 #[.agg #[.slice OA x.ops.length oc, .int .i64 x.ex.k, .int .i64 x.ex.a, .int .i64 x.ex.d, .int .i64 x.ex.to, .int .i64 x.ex.els], .pointer (some ⟨q, 0, none⟩)] w fun e w' => e = .returned (.bool (overB cs x)) ∧ Below w.heap.size w w' := by
  have c0 := Go.Joins.cell_of_block h.var 0
  have hq := (Array.getElem?_eq_some_iff.1 h.var).1
  have hg := (Array.getElem?_eq_some_iff.1 h.row).1
  unfold overB
  obtain ⟨ops, k, a, d, to, els⟩ := x
  simp only at hx ⊢
  by_cases hk : k = 4
  · obtain ⟨e0, e1⟩ := hx hk
    obtain ⟨j, rfl⟩ := Int.eq_ofNat_of_zero_le e0
    have hj : j < cs.length := by omega
    have hc := h.cell (List.getElem?_eq_getElem hj)
    rw [Int.toNat_natCast, List.getElem?_eq_getElem hj, Option.getD_some, decide_eq_true hk, Bool.true_and]
    have qk : (k == 4) = true := by simpa using hk
    have hji : (j : Int) < (cs.length : Int) := e1
    clear h hx hk e0 e1
    generalize cs[j] = v at *
    generalize cs.length = n at *
    clear hj
    go_enter Tryz.func147, Tryz.ntmps147
    go_wp2_with fail
    go_ret
    exact ⟨rfl, (Below.refl _ _).alloc (Nat.le_refl _) _⟩
  · rw [decide_eq_false hk, Bool.false_and]
    have qk : (k == 4) = false := by simpa using hk
    clear h hx hk
    go_enter Tryz.func147, Tryz.ntmps147
    go_wp2_with fail
    go_ret
    exact ⟨rfl, (Below.refl _ _).alloc (Nat.le_refl _) _⟩
set_option maxRecDepth 4000 in
set_option maxHeartbeats 1600000 in
theorem index_162 (A : Option Addr) (n cap g q : Nat) (cs : List Int) (l : List Bl) (OA : Nat → Option Addr) (oc : Nat → Nat) (AA : Nat → Nat → Option Addr) (ac : Nat → Nat → Nat) (w : World) (hl : l.length = n) (hn : n ≤ maxLen) (hA : BlsAt w w.heap.size A l OA oc AA ac) (h : LedAt w g q cs)
    (hx : ∀ x ∈ l, x.ex.k = 4 → 0 ≤ x.ex.els ∧ x.ex.els < cs.length) :
    Calls Tryz.prog 162 #[.slice A n cap, .func (.func 147) #[] #[.pointer (some ⟨q, 0, none⟩)]] w fun e w' => e = .returned (.int .i64 (if l.findIdx (overB cs) < n then (l.findIdx (overB cs) : Int) else -1)) ∧ Below w.heap.size w w' := by
  have HC : Hid (∀ W j x, l[j]? = some x → Below w.heap.size w W → Calls Tryz.prog 147 #[.agg #[.slice (OA j) x.ops.length (oc j), .int .i64 x.ex.k, .int .i64 x.ex.a, .int .i64 x.ex.d, .int .i64 x.ex.to, .int .i64 x.ex.els], .pointer (some ⟨q, 0, none⟩)] W fun e w' => e = .returned (.bool (overB cs x)) ∧ Below W.heap.size W w') :=
    Lib.hid fun W j x hj hb => clos_147 x (OA j) (oc j) g q cs W (h.after hb) (hx x (List.mem_of_getElem? hj))
  unfold maxLen at hn
  have Hl := Lib.hid hl
  have HA := Lib.hid hA
  clear hl hA h hx
  generalize overB cs = p at *
  generalize hans : (if l.findIdx p < n then (l.findIdx p : Int) else -1) = ans
  have Hans := Lib.hid hans
  clear hans
  go_enter Tryz.func162, Tryz.ntmps162
  go_wp2_with fail
  go_loopw [8] (fun i wr => ∃ (k : Nat), k ≤ n ∧ i = .int .i64 k ∧ k ≤ l.findIdx p ∧ Below w.heap.size w wr) (fun i _ => n - (intOf i).toNat)
  case atStart => exact ⟨0, by omega, rfl, by omega, Below.refl _ _⟩
  case round =>
    obtain ⟨k, hk, rfl, hi, hb⟩ := hrel
    have HB := Lib.hid hb
    have Hi := Lib.hid hi
    clear hb hi
    by_cases hlt : k < n
    · obtain ⟨ad, r, x, rfl, hxk, hp, -, a0, a1, a2, a3, a4, a5⟩ := bl_at (HA.out.after HB.out) (k := k) (by rw [Hl.out]; exact hlt)
      have hk' : k < l.length := by rw [Hl.out]; exact hlt
      have hx : l[k]'hk' = x := (List.getElem?_eq_some_iff.1 hxk).2
      have HCx := Lib.hid (HC.out wr k x hxk HB.out)
      cases hpx : p x with
      | true =>
        rw [hpx] at HCx
        have Hfin : Hid (ans = (k : Int)) := Lib.hid (by
          have h1 : l.findIdx p ≤ k := by
            rcases Nat.lt_or_ge k (l.findIdx p) with h | h
            · have := List.not_of_lt_findIdx h
              rw [hx, hpx] at this
              cases this
            · exact h
          have := Hi.out
          rw [← Hans.out, if_pos (by omega)]
          omega)
        clear hxk hx hpx hk'
        go_wp2_with (go_at_call 147; refine HCx.out.mono ?_; rintro e w2 ⟨rfl, hb2⟩)
        go_ret
        exact ⟨ret_int Hfin.out.symm, HB.out.trans (hb2.mono HB.out.size)⟩
      | false =>
        rw [hpx] at HCx
        have Hfin : Hid (k + 1 ≤ l.findIdx p) := Lib.hid (by
          have := Hi.out
          rcases Nat.lt_or_ge k (l.findIdx p) with h | h
          · exact h
          · have e : k = l.findIdx p := by omega
            have := List.findIdx_getElem (p := p) (xs := l) (w := by omega)
            simp only [← e] at this
            rw [hx, hpx] at this
            cases this)
        clear hxk hx hpx hk'
        go_wp2_with (go_at_call 147; refine HCx.out.mono ?_; rintro e w2 ⟨rfl, hb2⟩)
        go_roundw
        case rel => exact ⟨k + 1, by omega, by go_num, Hfin.out, HB.out.trans (hb2.mono HB.out.size)⟩
        case measure => simp [intOf]; omega
    · obtain rfl : k = n := by omega
      go_wp2_with fail
      go_ret
      exact ⟨ret_int (by have := Hi.out; rw [← Hans.out, if_neg (by omega)]), HB.out⟩
theorem contains_146 (A : Option Addr) (n cap g q : Nat) (cs : List Int) (l : List Bl) (OA : Nat → Option Addr) (oc : Nat → Nat) (AA : Nat → Nat → Option Addr) (ac : Nat → Nat → Nat) (w : World) (hl : l.length = n) (hn : n ≤ maxLen) (hA : BlsAt w w.heap.size A l OA oc AA ac) (h : LedAt w g q cs)
    (hx : ∀ x ∈ l, x.ex.k = 4 → 0 ≤ x.ex.els ∧ x.ex.els < cs.length) :
    Calls Tryz.prog 146 #[.slice A n cap, .func (.func 147) #[] #[.pointer (some ⟨q, 0, none⟩)]] w fun e w' => e = .returned (.bool (l.any (overB cs))) ∧ Below w.heap.size w w' := by
  have HI := Lib.hid (index_162 A n cap g q cs l OA oc AA ac w hl hn hA h hx)
  rw [show l.any (overB cs) = decide (l.findIdx (overB cs) < n) from by rw [← hl, Bool.eq_iff_iff, decide_eq_true_iff, List.any_eq_true, List.findIdx_lt_length]]
  by_cases hc : l.findIdx (overB cs) < n
  · rw [if_pos hc] at HI
    rw [show decide (l.findIdx (overB cs) < n) = true from by simp [hc]]
    clear hl hn hA h hx
    generalize l.findIdx (overB cs) = k at *
    clear hc
    go_enter Tryz.func146, Tryz.ntmps146
    go_wp2_with (go_at_call 162; refine HI.out.mono ?_; rintro e w1 ⟨rfl, hb⟩)
    go_ret
    exact ⟨rfl, hb⟩
  · rw [if_neg hc] at HI
    rw [show decide (l.findIdx (overB cs) < n) = false from by simp [hc]]
    clear hl hn hA h hx hc
    go_enter Tryz.func146, Tryz.ntmps146
    go_wp2_with (go_at_call 162; refine HI.out.mono ?_; rintro e w1 ⟨rfl, hb⟩)
    go_ret
    exact ⟨rfl, hb⟩
end Go.Proofs.YthgbmhpfblgjcaaGreatDoor.fl
