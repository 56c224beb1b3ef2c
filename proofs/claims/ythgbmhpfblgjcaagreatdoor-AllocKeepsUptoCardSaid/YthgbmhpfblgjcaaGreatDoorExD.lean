/-
  The contract of ruleOf of package ir. No condition.
-/
import Derived.Test.YthgbmhpfblgjcaaGreatDoorExB
import Derived.Laws.EntriesVeiled
set_option linter.unusedVariables false
set_option linter.unusedSimpArgs false
namespace Go.Proofs.YthgbmhpfblgjcaaGreatDoor.fl
open Go.RowKit
open M T ty
set_option linter.unusedVariables false
def immF (m : Nat) : Nat := if m = 0 then 151 else if m = 1 then 153 else if m = 2 then 154 else if m = 3 then 155 else if m = 4 then 156 else 157
def textF (m : Nat) : Nat := if m = 0 then 152 else if m = 1 then 121 else 158
def ruleV (s : ByteArray) (r : Rule) : Value := .agg #[.string s, .bool r.d, .bool r.a, .bool r.b, .func (.func (immF r.imm)) #[] #[], .func (.func (textF r.text)) #[] #[], .bool r.args, .bool r.maybe]
def RuleRes (s : ByteArray) (k : Int) (w : World) (e : Ending) (w' : World) : Prop := Below w.heap.size w w' ∧ match ruleP k with
  | some r => e = .returned (.tuple #[ruleV s r, .bool true])
  | none => e = .returned (.tuple #[.agg #[.string ⟨#[]⟩, .bool false, .bool false, .bool false, Value.nilFunc, Value.nilFunc, .bool false, .bool false], .bool false])
theorem idx_word (k : Int) (h0 : 3 ≤ k) (h1 : k ≤ 19) : ∃ s, ∀ W, (Instr.index 209 (.agg #[.string ⟨#[97, 100, 100]⟩, .string ⟨#[115, 117, 98]⟩, .string ⟨#[109, 117, 108]⟩, .string ⟨#[100, 105, 118]⟩, .string ⟨#[100, 105, 118, 117]⟩, .string ⟨#[114, 101, 109]⟩, .string ⟨#[114, 101, 109, 117]⟩, .string ⟨#[97, 110, 100]⟩, .string ⟨#[111, 114]⟩, .string ⟨#[120, 111, 114]⟩, .string ⟨#[115, 104, 108]⟩, .string ⟨#[115, 104, 114]⟩, .string ⟨#[115, 104, 114, 117]⟩, .string ⟨#[108, 116]⟩, .string ⟨#[108, 116, 117]⟩, .string ⟨#[101, 113]⟩, .string ⟨#[110, 101]⟩]) (.int .i64 (k - 3))).run Tryz.prog W = .ok (.string s) W := by
  obtain ⟨n, rfl⟩ := Int.eq_ofNat_of_zero_le (by omega : 0 ≤ k)
  have hn : n = 3 ∨ n = 4 ∨ n = 5 ∨ n = 6 ∨ n = 7 ∨ n = 8 ∨ n = 9 ∨ n = 10 ∨ n = 11 ∨ n = 12 ∨ n = 13 ∨ n = 14 ∨ n = 15 ∨ n = 16 ∨ n = 17 ∨ n = 18 ∨ n = 19 := by omega
  clear h0 h1
  rcases hn with rfl | rfl | rfl | rfl | rfl | rfl | rfl | rfl | rfl | rfl | rfl | rfl | rfl | rfl | rfl | rfl | rfl
  · exact ⟨⟨#[97, 100, 100]⟩, fun W => by kernel_rfl⟩
  · exact ⟨⟨#[115, 117, 98]⟩, fun W => by kernel_rfl⟩
  · exact ⟨⟨#[109, 117, 108]⟩, fun W => by kernel_rfl⟩
  · exact ⟨⟨#[100, 105, 118]⟩, fun W => by kernel_rfl⟩
  · exact ⟨⟨#[100, 105, 118, 117]⟩, fun W => by kernel_rfl⟩
  · exact ⟨⟨#[114, 101, 109]⟩, fun W => by kernel_rfl⟩
  · exact ⟨⟨#[114, 101, 109, 117]⟩, fun W => by kernel_rfl⟩
  · exact ⟨⟨#[97, 110, 100]⟩, fun W => by kernel_rfl⟩
  · exact ⟨⟨#[111, 114]⟩, fun W => by kernel_rfl⟩
  · exact ⟨⟨#[120, 111, 114]⟩, fun W => by kernel_rfl⟩
  · exact ⟨⟨#[115, 104, 108]⟩, fun W => by kernel_rfl⟩
  · exact ⟨⟨#[115, 104, 114]⟩, fun W => by kernel_rfl⟩
  · exact ⟨⟨#[115, 104, 114, 117]⟩, fun W => by kernel_rfl⟩
  · exact ⟨⟨#[108, 116]⟩, fun W => by kernel_rfl⟩
  · exact ⟨⟨#[108, 116, 117]⟩, fun W => by kernel_rfl⟩
  · exact ⟨⟨#[101, 113]⟩, fun W => by kernel_rfl⟩
  · exact ⟨⟨#[110, 101]⟩, fun W => by kernel_rfl⟩
set_option maxRecDepth 20000 in
set_option maxHeartbeats 4000000 in
theorem word_150 (k : Int) (h0 : 3 ≤ k) (h1 : k ≤ 19) : ∃ s, ∀ w, Calls Tryz.prog 150 #[.int .i64 k] w fun e w' => e = .returned (.string s) ∧ w' = w := by
  obtain ⟨s, hs⟩ := idx_word k h0 h1
  refine ⟨s, fun w => ?_⟩
  go_enter Tryz.func150, Tryz.ntmps150
  go_wp2_with fail
  go_ret
  exact ⟨rfl, rfl⟩
theorem stored8 (w W : World) (h : Below w.heap.size w W) (a b c d e f g i : Value) : Below w.heap.size w ((((((((W.setCell ⟨w.heap.size, 0, none⟩ a).setCell ⟨w.heap.size, 1, none⟩ b).setCell ⟨w.heap.size, 2, none⟩ c).setCell ⟨w.heap.size, 3, none⟩ d).setCell ⟨w.heap.size, 4, none⟩ e).setCell ⟨w.heap.size, 5, none⟩ f).setCell ⟨w.heap.size, 6, none⟩ g).setCell ⟨w.heap.size, 7, none⟩ i) := by
  have s : ∀ {W : World} (r : Nat) (v : Value), Below w.heap.size w W → Below w.heap.size w (W.setCell ⟨w.heap.size, r, none⟩ v) := fun r v h => h.setCell (Nat.le_refl _) v
  exact s 7 _ (s 6 _ (s 5 _ (s 4 _ (s 3 _ (s 2 _ (s 1 _ (s 0 _ h)))))))
set_option maxHeartbeats 4000000 in
theorem rule_1 (w : World) : Calls Tryz.prog 136 #[.int .i64 1] w (RuleRes ⟨#[99, 111, 110, 115, 116]⟩ 1 w) := by
  have hr : ruleP 1 = some ⟨true, false, false, false, false, 1, 0⟩ := by simp [ruleP]
  unfold RuleRes
  rw [hr]
  clear hr
  go_enter Tryz.func136, Tryz.ntmps136
  go_wp2_with fail
  try simp only [Exit.inBlock, Exit.then]
  refine bodyPost_ret (v := .tuple #[.agg #[.string ⟨#[99, 111, 110, 115, 116]⟩, .bool true, .bool false, .bool false, .func (.func 153) #[] #[], .func (.func 152) #[] #[], .bool false, .bool false], .bool true]) (by rw [results_cell_tmp rfl]; go_simp) rfl ?_
  exact ⟨(Below.refl _ _).alloc (Nat.le_refl _) _, rfl⟩
set_option maxHeartbeats 4000000 in
theorem rule_2 (w : World) : Calls Tryz.prog 136 #[.int .i64 2] w (RuleRes ⟨#[109, 111, 118, 101]⟩ 2 w) := by
  have hr : ruleP 2 = some ⟨true, true, false, false, false, 0, 0⟩ := by simp [ruleP]
  unfold RuleRes
  rw [hr]
  clear hr
  go_enter Tryz.func136, Tryz.ntmps136
  go_wp2_with fail
  try simp only [Exit.inBlock, Exit.then]
  refine bodyPost_ret (v := .tuple #[.agg #[.string ⟨#[109, 111, 118, 101]⟩, .bool true, .bool true, .bool false, .func (.func 151) #[] #[], .func (.func 152) #[] #[], .bool false, .bool false], .bool true]) (by rw [results_cell_tmp rfl]; go_simp) rfl ?_
  exact ⟨(Below.refl _ _).alloc (Nat.le_refl _) _, rfl⟩
set_option maxHeartbeats 4000000 in
theorem rule_20 (w : World) : Calls Tryz.prog 136 #[.int .i64 20] w (RuleRes ⟨#[101, 120, 116]⟩ 20 w) := by
  have hr : ruleP 20 = some ⟨true, true, false, false, false, 2, 0⟩ := by simp [ruleP]
  unfold RuleRes
  rw [hr]
  clear hr
  go_enter Tryz.func136, Tryz.ntmps136
  go_wp2_with fail
  try simp only [Exit.inBlock, Exit.then]
  refine bodyPost_ret (v := .tuple #[.agg #[.string ⟨#[101, 120, 116]⟩, .bool true, .bool true, .bool false, .func (.func 154) #[] #[], .func (.func 152) #[] #[], .bool false, .bool false], .bool true]) (by rw [results_cell_tmp rfl]; go_simp) rfl ?_
  exact ⟨(Below.refl _ _).alloc (Nat.le_refl _) _, rfl⟩
set_option maxHeartbeats 4000000 in
theorem rule_21 (w : World) : Calls Tryz.prog 136 #[.int .i64 21] w (RuleRes ⟨#[115, 108, 111, 116]⟩ 21 w) := by
  have hr : ruleP 21 = some ⟨true, false, false, false, false, 3, 0⟩ := by simp [ruleP]
  unfold RuleRes
  rw [hr]
  clear hr
  go_enter Tryz.func136, Tryz.ntmps136
  go_wp2_with fail
  try simp only [Exit.inBlock, Exit.then]
  refine bodyPost_ret (v := .tuple #[.agg #[.string ⟨#[115, 108, 111, 116]⟩, .bool true, .bool false, .bool false, .func (.func 155) #[] #[], .func (.func 152) #[] #[], .bool false, .bool false], .bool true]) (by rw [results_cell_tmp rfl]; go_simp) rfl ?_
  exact ⟨(Below.refl _ _).alloc (Nat.le_refl _) _, rfl⟩
set_option maxHeartbeats 4000000 in
theorem rule_22 (w : World) : Calls Tryz.prog 136 #[.int .i64 22] w (RuleRes ⟨#[103, 108, 111, 98, 97, 108]⟩ 22 w) := by
  have hr : ruleP 22 = some ⟨true, false, false, false, false, 0, 1⟩ := by simp [ruleP]
  unfold RuleRes
  rw [hr]
  clear hr
  go_enter Tryz.func136, Tryz.ntmps136
  go_wp2_with fail
  try simp only [Exit.inBlock, Exit.then]
  refine bodyPost_ret (v := .tuple #[.agg #[.string ⟨#[103, 108, 111, 98, 97, 108]⟩, .bool true, .bool false, .bool false, .func (.func 151) #[] #[], .func (.func 121) #[] #[], .bool false, .bool false], .bool true]) (by rw [results_cell_tmp rfl]; go_simp) rfl ?_
  exact ⟨(Below.refl _ _).alloc (Nat.le_refl _) _, rfl⟩
set_option maxHeartbeats 4000000 in
theorem rule_23 (w : World) : Calls Tryz.prog 136 #[.int .i64 23] w (RuleRes ⟨#[115, 116, 114, 105, 110, 103]⟩ 23 w) := by
  have hr : ruleP 23 = some ⟨true, false, false, false, false, 3, 0⟩ := by simp [ruleP]
  unfold RuleRes
  rw [hr]
  clear hr
  go_enter Tryz.func136, Tryz.ntmps136
  go_wp2_with fail
  try simp only [Exit.inBlock, Exit.then]
  refine bodyPost_ret (v := .tuple #[.agg #[.string ⟨#[115, 116, 114, 105, 110, 103]⟩, .bool true, .bool false, .bool false, .func (.func 155) #[] #[], .func (.func 152) #[] #[], .bool false, .bool false], .bool true]) (by rw [results_cell_tmp rfl]; go_simp) rfl ?_
  exact ⟨(Below.refl _ _).alloc (Nat.le_refl _) _, rfl⟩
set_option maxHeartbeats 4000000 in
theorem rule_24 (w : World) : Calls Tryz.prog 136 #[.int .i64 24] w (RuleRes ⟨#[102, 117, 110, 99]⟩ 24 w) := by
  have hr : ruleP 24 = some ⟨true, false, false, false, false, 0, 1⟩ := by simp [ruleP]
  unfold RuleRes
  rw [hr]
  clear hr
  go_enter Tryz.func136, Tryz.ntmps136
  go_wp2_with fail
  try simp only [Exit.inBlock, Exit.then]
  refine bodyPost_ret (v := .tuple #[.agg #[.string ⟨#[102, 117, 110, 99]⟩, .bool true, .bool false, .bool false, .func (.func 151) #[] #[], .func (.func 121) #[] #[], .bool false, .bool false], .bool true]) (by rw [results_cell_tmp rfl]; go_simp) rfl ?_
  exact ⟨(Below.refl _ _).alloc (Nat.le_refl _) _, rfl⟩
set_option maxHeartbeats 4000000 in
theorem rule_25 (w : World) : Calls Tryz.prog 136 #[.int .i64 25] w (RuleRes ⟨#[108, 111, 97, 100]⟩ 25 w) := by
  have hr : ruleP 25 = some ⟨true, true, false, false, false, 4, 0⟩ := by simp [ruleP]
  unfold RuleRes
  rw [hr]
  clear hr
  go_enter Tryz.func136, Tryz.ntmps136
  go_wp2_with fail
  try simp only [Exit.inBlock, Exit.then]
  refine bodyPost_ret (v := .tuple #[.agg #[.string ⟨#[108, 111, 97, 100]⟩, .bool true, .bool true, .bool false, .func (.func 156) #[] #[], .func (.func 152) #[] #[], .bool false, .bool false], .bool true]) (by rw [results_cell_tmp rfl]; go_simp) rfl ?_
  exact ⟨(Below.refl _ _).alloc (Nat.le_refl _) _, rfl⟩
set_option maxHeartbeats 4000000 in
theorem rule_26 (w : World) : Calls Tryz.prog 136 #[.int .i64 26] w (RuleRes ⟨#[115, 116, 111, 114, 101]⟩ 26 w) := by
  have hr : ruleP 26 = some ⟨false, true, true, false, false, 4, 0⟩ := by simp [ruleP]
  unfold RuleRes
  rw [hr]
  clear hr
  go_enter Tryz.func136, Tryz.ntmps136
  go_wp2_with fail
  try simp only [Exit.inBlock, Exit.then]
  refine bodyPost_ret (v := .tuple #[.agg #[.string ⟨#[115, 116, 111, 114, 101]⟩, .bool false, .bool true, .bool true, .func (.func 156) #[] #[], .func (.func 152) #[] #[], .bool false, .bool false], .bool true]) (by rw [results_cell_tmp rfl]; go_simp) rfl ?_
  exact ⟨(Below.refl _ _).alloc (Nat.le_refl _) _, rfl⟩
set_option maxHeartbeats 4000000 in
theorem rule_27 (w : World) : Calls Tryz.prog 136 #[.int .i64 27] w (RuleRes ⟨#[99, 111, 112, 121]⟩ 27 w) := by
  have hr : ruleP 27 = some ⟨false, true, true, false, false, 5, 0⟩ := by simp [ruleP]
  unfold RuleRes
  rw [hr]
  clear hr
  go_enter Tryz.func136, Tryz.ntmps136
  go_wp2_with fail
  try simp only [Exit.inBlock, Exit.then]
  refine bodyPost_ret (v := .tuple #[.agg #[.string ⟨#[99, 111, 112, 121]⟩, .bool false, .bool true, .bool true, .func (.func 157) #[] #[], .func (.func 152) #[] #[], .bool false, .bool false], .bool true]) (by rw [results_cell_tmp rfl]; go_simp) rfl ?_
  exact ⟨(Below.refl _ _).alloc (Nat.le_refl _) _, rfl⟩
set_option maxHeartbeats 4000000 in
theorem rule_28 (w : World) : Calls Tryz.prog 136 #[.int .i64 28] w (RuleRes ⟨#[99, 97, 108, 108]⟩ 28 w) := by
  have hr : ruleP 28 = some ⟨true, true, false, true, true, 0, 0⟩ := by simp [ruleP]
  unfold RuleRes
  rw [hr]
  clear hr
  go_enter Tryz.func136, Tryz.ntmps136
  go_wp2_with fail
  try simp only [Exit.inBlock, Exit.then]
  refine bodyPost_ret (v := .tuple #[.agg #[.string ⟨#[99, 97, 108, 108]⟩, .bool true, .bool true, .bool false, .func (.func 151) #[] #[], .func (.func 152) #[] #[], .bool true, .bool true], .bool true]) (by rw [results_cell_tmp rfl]; go_simp) rfl ?_
  exact ⟨(Below.refl _ _).alloc (Nat.le_refl _) _, rfl⟩
set_option maxHeartbeats 4000000 in
theorem rule_29 (w : World) : Calls Tryz.prog 136 #[.int .i64 29] w (RuleRes ⟨#[98, 117, 105, 108, 116]⟩ 29 w) := by
  have hr : ruleP 29 = some ⟨true, false, false, true, true, 0, 2⟩ := by simp [ruleP]
  unfold RuleRes
  rw [hr]
  clear hr
  go_enter Tryz.func136, Tryz.ntmps136
  go_wp2_with fail
  try simp only [Exit.inBlock, Exit.then]
  refine bodyPost_ret (v := .tuple #[.agg #[.string ⟨#[98, 117, 105, 108, 116]⟩, .bool true, .bool false, .bool false, .func (.func 151) #[] #[], .func (.func 158) #[] #[], .bool true, .bool true], .bool true]) (by rw [results_cell_tmp rfl]; go_simp) rfl ?_
  exact ⟨(Below.refl _ _).alloc (Nat.le_refl _) _, rfl⟩
set_option maxHeartbeats 4000000 in
theorem rule_two (k : Int) (h0 : 3 ≤ k) (h1 : k ≤ 19) : ∃ s, ∀ w, Calls Tryz.prog 136 #[.int .i64 k] w (RuleRes s k w) := by
  have hr : ruleP k = some ⟨true, true, true, false, false, 0, 0⟩ := by unfold ruleP; rw [if_pos ⟨h0, h1⟩]
  obtain ⟨s, hw⟩ := word_150 k h0 h1
  have HW := Lib.hid hw
  refine ⟨s, fun w => ?_⟩
  clear hw
  unfold RuleRes
  rw [hr]
  clear hr
  go_enter Tryz.func136, Tryz.ntmps136
  go_wp2_with (go_at_call 150; refine (HW.out _).mono ?_; rintro e w1 ⟨rfl, rfl⟩)
  try simp only [Exit.inBlock, Exit.then]
  refine bodyPost_ret (v := .tuple #[.agg #[.string s, .bool true, .bool true, .bool true, .func (.func 151) #[] #[], .func (.func 152) #[] #[], .bool false, .bool false], .bool true]) (by rw [results_cell_tmp rfl]; go_simp) rfl ?_
  exact ⟨(Below.refl _ _).alloc (Nat.le_refl _) _, rfl⟩
set_option maxHeartbeats 4000000 in
theorem rule_136 (k : Int) : ∃ s, ∀ w, Calls Tryz.prog 136 #[.int .i64 k] w (RuleRes s k w) := by
  by_cases hr : 3 ≤ k ∧ k ≤ 19
  · exact rule_two k hr.1 hr.2
  · by_cases h1 : k = 1
    · subst h1; exact ⟨_, rule_1⟩
    · by_cases h2 : k = 2
      · subst h2; exact ⟨_, rule_2⟩
      · by_cases h20 : k = 20
        · subst h20; exact ⟨_, rule_20⟩
        · by_cases h21 : k = 21
          · subst h21; exact ⟨_, rule_21⟩
          · by_cases h22 : k = 22
            · subst h22; exact ⟨_, rule_22⟩
            · by_cases h23 : k = 23
              · subst h23; exact ⟨_, rule_23⟩
              · by_cases h24 : k = 24
                · subst h24; exact ⟨_, rule_24⟩
                · by_cases h25 : k = 25
                  · subst h25; exact ⟨_, rule_25⟩
                  · by_cases h26 : k = 26
                    · subst h26; exact ⟨_, rule_26⟩
                    · by_cases h27 : k = 27
                      · subst h27; exact ⟨_, rule_27⟩
                      · by_cases h28 : k = 28
                        · subst h28; exact ⟨_, rule_28⟩
                        · by_cases h29 : k = 29
                          · subst h29; exact ⟨_, rule_29⟩
                          · refine ⟨⟨#[]⟩, fun w => ?_⟩
                            have hn : ruleP k = none := by simp [ruleP, hr, h1, h2, h20, h21, h22, h23, h24, h25, h26, h27, h28, h29]
                            unfold RuleRes
                            rw [hn]
                            have e1 : (k == 1) = false := by simpa using h1
                            have e2 : (k == 2) = false := by simpa using h2
                            have e20 : (k == 20) = false := by simpa using h20
                            have e21 : (k == 21) = false := by simpa using h21
                            have e22 : (k == 22) = false := by simpa using h22
                            have e23 : (k == 23) = false := by simpa using h23
                            have e24 : (k == 24) = false := by simpa using h24
                            have e25 : (k == 25) = false := by simpa using h25
                            have e26 : (k == 26) = false := by simpa using h26
                            have e27 : (k == 27) = false := by simpa using h27
                            have e28 : (k == 28) = false := by simpa using h28
                            have e29 : (k == 29) = false := by simpa using h29
                            clear hn h1 h2 h20 h21 h22 h23 h24 h25 h26 h27 h28 h29
                            by_cases q3 : 3 ≤ k
                            · have q4 : ¬ k ≤ 19 := fun h => hr ⟨q3, h⟩
                              have q5 : 19 < k := by omega
                              clear hr
                              go_enter Tryz.func136, Tryz.ntmps136
                              go_wp2_with fail
                              try simp only [Exit.inBlock, Exit.then]
                              refine bodyPost_ret (v := .tuple #[.agg #[.string ⟨#[]⟩, .bool false, .bool false, .bool false, Value.nilFunc, Value.nilFunc, .bool false, .bool false], .bool false]) (by rw [results_cell_tmp rfl]; go_simp) rfl ?_
                              exact ⟨(Below.refl _ _).alloc (Nat.le_refl _) _, rfl⟩
                            · have q4 : k < 3 := by omega
                              clear hr
                              go_enter Tryz.func136, Tryz.ntmps136
                              go_wp2_with fail
                              try simp only [Exit.inBlock, Exit.then]
                              refine bodyPost_ret (v := .tuple #[.agg #[.string ⟨#[]⟩, .bool false, .bool false, .bool false, Value.nilFunc, Value.nilFunc, .bool false, .bool false], .bool false]) (by rw [results_cell_tmp rfl]; go_simp) rfl ?_
                              exact ⟨(Below.refl _ _).alloc (Nat.le_refl _) _, rfl⟩
end Go.Proofs.YthgbmhpfblgjcaaGreatDoor.fl
