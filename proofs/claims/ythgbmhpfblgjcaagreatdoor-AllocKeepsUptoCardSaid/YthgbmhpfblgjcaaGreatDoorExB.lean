/-
  Contracts of Exits and exit of package ir. No condition.
-/
import Derived.Test.YthgbmhpfblgjcaaGreatDoorPk
import Derived.Test.YthgbmhpfblgjcaaGreatDoorNa
import Derived.Laws.ResultCell
set_option linter.unusedVariables false
set_option linter.unusedSimpArgs false
namespace Go.Proofs.YthgbmhpfblgjcaaGreatDoor.fl
open Go.RowKit
open M T ty
set_option linter.unusedVariables false
theorem results_cell1 {fn : Func} {p : Tmp} {ty : TypeId} (h : fn.results = #[.cell p ty]) (tmps : Array Value) (P : Program) (w : World) :
    (results fn tmps).run P w = ((asAddr (tmps.getD p undef)).run P w).andThen fun a w₁ => (loadVar ty a).run P w₁ := by
  simp only [results, h]
  simp [Sem.run_bind, Result.andThen]
theorem imm_151 (x : Int) (w : World) : Calls Tryz.prog 151 #[.int .i64 x] w fun e w' => e = .returned (.bool (immB 0 x)) ∧ w' = w := by
  generalize hb : immB 0 x = b
  have Hb := Lib.hid hb
  clear hb
  go_enter Tryz.func151, Tryz.ntmps151
  go_wp2_with fail
  all_goals
    go_ret
    refine ⟨ret_bool ?_, rfl⟩
    rw [← Hb.out, Bool.eq_iff_iff]
    unfold immB
    simp
    try omega
theorem imm_153 (x : Int) (w : World) : Calls Tryz.prog 153 #[.int .i64 x] w fun e w' => e = .returned (.bool (immB 1 x)) ∧ w' = w := by
  generalize hb : immB 1 x = b
  have Hb := Lib.hid hb
  clear hb
  go_enter Tryz.func153, Tryz.ntmps153
  go_wp2_with fail
  all_goals
    go_ret
    refine ⟨ret_bool ?_, rfl⟩
    rw [← Hb.out, Bool.eq_iff_iff]
    unfold immB
    simp
    try omega
theorem imm_154 (x : Int) (w : World) : Calls Tryz.prog 154 #[.int .i64 x] w fun e w' => e = .returned (.bool (immB 2 x)) ∧ w' = w := by
  generalize hb : immB 2 x = b
  have Hb := Lib.hid hb
  clear hb
  go_enter Tryz.func154, Tryz.ntmps154
  go_wp2_with fail
  all_goals
    go_ret
    refine ⟨ret_bool ?_, rfl⟩
    rw [← Hb.out, Bool.eq_iff_iff]
    unfold immB
    simp
    try omega
theorem imm_155 (x : Int) (w : World) : Calls Tryz.prog 155 #[.int .i64 x] w fun e w' => e = .returned (.bool (immB 3 x)) ∧ w' = w := by
  generalize hb : immB 3 x = b
  have Hb := Lib.hid hb
  clear hb
  go_enter Tryz.func155, Tryz.ntmps155
  go_wp2_with fail
  all_goals
    go_ret
    refine ⟨ret_bool ?_, rfl⟩
    rw [← Hb.out, Bool.eq_iff_iff]
    unfold immB
    simp
    try omega
theorem imm_156 (x : Int) (w : World) : Calls Tryz.prog 156 #[.int .i64 x] w fun e w' => e = .returned (.bool (immB 4 x)) ∧ w' = w := by
  generalize hb : immB 4 x = b
  have Hb := Lib.hid hb
  clear hb
  go_enter Tryz.func156, Tryz.ntmps156
  go_wp2_with fail
  all_goals
    go_ret
    refine ⟨ret_bool ?_, rfl⟩
    rw [← Hb.out, Bool.eq_iff_iff]
    unfold immB
    simp
    try omega
theorem imm_157 (x : Int) (w : World) : Calls Tryz.prog 157 #[.int .i64 x] w fun e w' => e = .returned (.bool (immB 5 x)) ∧ w' = w := by
  generalize hb : immB 5 x = b
  have Hb := Lib.hid hb
  clear hb
  go_enter Tryz.func157, Tryz.ntmps157
  go_wp2_with fail
  all_goals
    go_ret
    refine ⟨ret_bool ?_, rfl⟩
    rw [← Hb.out, Bool.eq_iff_iff]
    unfold immB
    simp
    try omega
theorem toList_lit (s : ByteArray) (l : List UInt8) (n : List Int) (hn : n = l.map fun c => (c.toNat : Int)) : (s.toList == l) = decide (nums s = n) := by
  subst hn
  have h : s.toList = s.data.toList := by rw [ByteArray.toList_eq]
  rw [h]
  unfold nums
  rw [Bool.eq_iff_iff, beq_iff_eq, decide_eq_true_iff]
  constructor
  · intro e; rw [e]
  · intro e
    exact (List.map_inj_right (fun a b h => by
      have : a.toNat = b.toNat := by exact_mod_cast h
      exact UInt8.toNat_inj.1 this)).1 e
theorem empty_152 (s : ByteArray) (w : World) : Calls Tryz.prog 152 #[.string s] w fun e w' => e = .returned (.bool (textB 0 s)) ∧ w' = w := by
  have h := toList_lit s [] [] rfl
  unfold textB
  rw [if_pos rfl]
  by_cases hs : nums s = []
  · rw [decide_eq_true hs] at h ⊢
    have h1 : s.toList = [] := by simpa using h
    clear hs
    go_enter Tryz.func152, Tryz.ntmps152
    go_wp2_with fail
    go_ret
    exact ⟨rfl, rfl⟩
  · rw [decide_eq_false hs] at h ⊢
    have h1 : s.toList ≠ [] := by simpa using h
    have h2 : s.toList.isEmpty = false := by simpa using h1
    clear hs
    go_enter Tryz.func152, Tryz.ntmps152
    go_wp2_with fail
    go_ret
    exact ⟨rfl, rfl⟩
set_option maxHeartbeats 1600000 in
theorem built_140 (s : ByteArray) (w : World) : Calls Tryz.prog 140 #[.string s] w fun e w' => e = .returned (.tuple #[.int .i64 (builtP (nums s)).1, .bool (builtP (nums s)).2.1, .bool (builtP (nums s)).2.2]) ∧ w' = w := by
  have ea := toList_lit s [103, 101, 116, 99, 104, 97, 114] [103, 101, 116, 99, 104, 97, 114] rfl
  have eb := toList_lit s [112, 117, 116, 99, 104, 97, 114] [112, 117, 116, 99, 104, 97, 114] rfl
  have ec := toList_lit s [99, 111, 95, 121, 105, 101, 108, 100] [99, 111, 95, 121, 105, 101, 108, 100] rfl
  have ed := toList_lit s [99, 111, 95, 100, 111, 110, 101] [99, 111, 95, 100, 111, 110, 101] rfl
  have ee := toList_lit s [101, 120, 105, 116] [101, 120, 105, 116] rfl
  have ef := toList_lit s [99, 111, 95, 102, 114, 101, 101] [99, 111, 95, 102, 114, 101, 101] rfl
  have eg := toList_lit s [108, 111, 110, 103, 106, 109, 112] [108, 111, 110, 103, 106, 109, 112] rfl
  have eh := toList_lit s [99, 111, 95, 110, 101, 119] [99, 111, 95, 110, 101, 119] rfl
  have ei := toList_lit s [99, 111, 95, 114, 101, 115, 117, 109, 101] [99, 111, 95, 114, 101, 115, 117, 109, 101] rfl
  by_cases ha : nums s = [103, 101, 116, 99, 104, 97, 114]
  · rw [decide_eq_true ha] at ea
    rw [ha]
    clear ha  eb ec ed ee ef eg eh ei
    go_enter Tryz.func140, Tryz.ntmps140
    go_wp2_with fail
    go_ret3
    exact ⟨rfl, rfl⟩
  · rw [decide_eq_false ha] at ea
    by_cases hb : nums s = [112, 117, 116, 99, 104, 97, 114]
    · rw [decide_eq_true hb] at eb
      rw [hb]
      clear hb ha ec ed ee ef eg eh ei
      go_enter Tryz.func140, Tryz.ntmps140
      go_wp2_with fail
      go_ret3
      exact ⟨rfl, rfl⟩
    · rw [decide_eq_false hb] at eb
      by_cases hc : nums s = [99, 111, 95, 121, 105, 101, 108, 100]
      · rw [decide_eq_true hc] at ec
        rw [hc]
        clear hc ha hb ed ee ef eg eh ei
        go_enter Tryz.func140, Tryz.ntmps140
        go_wp2_with fail
        go_ret3
        exact ⟨rfl, rfl⟩
      · rw [decide_eq_false hc] at ec
        by_cases hd : nums s = [99, 111, 95, 100, 111, 110, 101]
        · rw [decide_eq_true hd] at ed
          rw [hd]
          clear hd ha hb hc ee ef eg eh ei
          go_enter Tryz.func140, Tryz.ntmps140
          go_wp2_with fail
          go_ret3
          exact ⟨rfl, rfl⟩
        · rw [decide_eq_false hd] at ed
          by_cases he : nums s = [101, 120, 105, 116]
          · rw [decide_eq_true he] at ee
            rw [he]
            clear he ha hb hc hd ef eg eh ei
            go_enter Tryz.func140, Tryz.ntmps140
            go_wp2_with fail
            go_ret3
            exact ⟨rfl, rfl⟩
          · rw [decide_eq_false he] at ee
            by_cases hf : nums s = [99, 111, 95, 102, 114, 101, 101]
            · rw [decide_eq_true hf] at ef
              rw [hf]
              clear hf ha hb hc hd he eg eh ei
              go_enter Tryz.func140, Tryz.ntmps140
              go_wp2_with fail
              go_ret3
              exact ⟨rfl, rfl⟩
            · rw [decide_eq_false hf] at ef
              by_cases hg : nums s = [108, 111, 110, 103, 106, 109, 112]
              · rw [decide_eq_true hg] at eg
                rw [hg]
                clear hg ha hb hc hd he hf eh ei
                go_enter Tryz.func140, Tryz.ntmps140
                go_wp2_with fail
                go_ret3
                exact ⟨rfl, rfl⟩
              · rw [decide_eq_false hg] at eg
                by_cases hh : nums s = [99, 111, 95, 110, 101, 119]
                · rw [decide_eq_true hh] at eh
                  rw [hh]
                  clear hh ha hb hc hd he hf hg ei
                  go_enter Tryz.func140, Tryz.ntmps140
                  go_wp2_with fail
                  go_ret3
                  exact ⟨rfl, rfl⟩
                · rw [decide_eq_false hh] at eh
                  by_cases hi : nums s = [99, 111, 95, 114, 101, 115, 117, 109, 101]
                  · rw [decide_eq_true hi] at ei
                    rw [hi]
                    clear hi ha hb hc hd he hf hg hh 
                    go_enter Tryz.func140, Tryz.ntmps140
                    go_wp2_with fail
                    go_ret3
                    exact ⟨rfl, rfl⟩
                  · rw [decide_eq_false hi] at ei
                    rw [show builtP (nums s) = (0, false, false) from by unfold builtP; simp only [ha, hb, hc, hd, he, hf, hg, hh, hi, if_false, or_self]]
                    clear ha hb hc hd he hf hg hh hi
                    go_enter Tryz.func140, Tryz.ntmps140
                    go_wp2_with fail
                    go_ret3
                    exact ⟨rfl, rfl⟩
theorem isbuilt_158 (s : ByteArray) (w : World) : Calls Tryz.prog 158 #[.string s] w fun e w' => e = .returned (.bool (textB 2 s)) ∧ w' = w := by
  have HB := Lib.hid (built_140 s w)
  unfold textB
  rw [if_neg (by decide), if_neg (by decide)]
  generalize builtP (nums s) = r at *
  obtain ⟨a, b, c⟩ := r
  go_enter Tryz.func158, Tryz.ntmps158
  go_wp2_with (go_at_call 140; refine HB.out.mono ?_; rintro e w1 ⟨rfl, rfl⟩)
  go_ret
  exact ⟨rfl, rfl⟩
theorem any_119 (w : World) : Calls Tryz.prog 119 #[] w fun e w' => e = .returned (.agg #[.int .i64 4096, .int .i64 4611686018427387904, .int .i64 4611686018427387904]) ∧ Below w.heap.size w w' := by
  go_enter Tryz.func119, Tryz.ntmps119
  go_wp2_with fail
  try simp only [Exit.inBlock, Exit.then]
  refine bodyPost_ret (v := .agg #[.int .i64 4096, .int .i64 4611686018427387904, .int .i64 4611686018427387904]) (by rw [results_cell1 rfl]; go_simp) rfl ?_
  exact ⟨rfl, (Below.refl _ _).alloc (Nat.le_refl _) _⟩
theorem reg_137 (R sl st r : Int) (used maybe : Bool) (w : World) : Calls Tryz.prog 137 #[.agg #[.int .i64 R, .int .i64 sl, .int .i64 st], .int .i64 r, .bool used, .bool maybe] w fun e w' => e = .returned (.bool (regB R r used maybe)) ∧ Below w.heap.size w w' := by
  unfold regB
  by_cases h1 : r = -1
  · subst h1
    rw [if_pos rfl]
    cases used <;> cases maybe
    all_goals
      go_enter Tryz.func137, Tryz.ntmps137
      go_wp2_with fail
      go_ret
      exact ⟨rfl, (Below.refl _ _).alloc (Nat.le_refl _) _⟩
  · rw [if_neg h1]
    cases used with
    | false =>
      go_enter Tryz.func137, Tryz.ntmps137
      go_wp2_with fail
      go_ret
      exact ⟨rfl, (Below.refl _ _).alloc (Nat.le_refl _) _⟩
    | true =>
      by_cases h2 : 0 ≤ r
      · by_cases h3 : r < R
        · rw [decide_eq_true h2, decide_eq_true h3]
          go_enter Tryz.func137, Tryz.ntmps137
          go_wp2_with fail
          go_ret
          exact ⟨rfl, (Below.refl _ _).alloc (Nat.le_refl _) _⟩
        · rw [decide_eq_true h2, decide_eq_false h3]
          go_enter Tryz.func137, Tryz.ntmps137
          go_wp2_with fail
          go_ret
          exact ⟨rfl, (Below.refl _ _).alloc (Nat.le_refl _) _⟩
      · rw [decide_eq_false h2]
        go_enter Tryz.func137, Tryz.ntmps137
        go_wp2_with fail
        go_ret
        exact ⟨rfl, (Below.refl _ _).alloc (Nat.le_refl _) _⟩
theorem to_144 (n nb : Int) (p : Nat) (w : World) (h : w.cell? ⟨p, 0, none⟩ = some (.int .i64 nb)) : Calls Tryz.prog 144 #[.int .i64 n, .pointer (some ⟨p, 0, none⟩)] w fun e w' => e = .returned (.bool (toB n nb)) ∧ w' = w := by
  unfold toB
  by_cases h2 : 1 ≤ n
  · by_cases h3 : n < nb
    · rw [decide_eq_true h2, decide_eq_true h3]
      go_enter Tryz.func144, Tryz.ntmps144
      go_wp2_with fail
      go_ret
      exact ⟨rfl, rfl⟩
    · rw [decide_eq_true h2, decide_eq_false h3]
      go_enter Tryz.func144, Tryz.ntmps144
      go_wp2_with fail
      go_ret
      exact ⟨rfl, rfl⟩
  · rw [decide_eq_false h2]
    go_enter Tryz.func144, Tryz.ntmps144
    go_wp2_with fail
    go_ret
    exact ⟨rfl, rfl⟩
end Go.Proofs.YthgbmhpfblgjcaaGreatDoor.fl
namespace Go.Proofs.YthgbmhpfblgjcaaGreatDoor.fl
open Go.RowKit
open M T ty
set_option linter.unusedVariables false
def exV (x : Ex) : Value := .agg #[.int .i64 x.k, .int .i64 x.a, .int .i64 x.d, .int .i64 x.to, .int .i64 x.els]
def ints (l : List Int) : List Value := l.map (.int .i64)
theorem ints_length (l : List Int) : (ints l).length = l.length := by simp [ints]
/-- a slice of numbers, of whatever capacity -/
def IntsAt (W : World) (B : Nat) (v : Value) (l : List Int) : Prop := ∃ A c, v = .slice A l.length c ∧ W.ownsRow B 3 1 (.slice A l.length c) l.length (ints l)
theorem IntsAt.nil (W : World) (B : Nat) : IntsAt W B (.slice none 0 0) [] := ⟨none, 0, rfl, rfl, .inl ⟨rfl, rfl⟩⟩
theorem own_below_size {b : Nat} {W W' : World} {e s n : Nat} {v : Value} {xs : List Value} (h : W.ownsRow b e s v n xs) (hb : Below W.heap.size W W') : W'.ownsRow b e s v n xs := by
  refine ⟨h.1, ?_⟩
  rcases h.2 with h0 | ⟨g, cap, cur, hv, hg, hh, r⟩
  · exact .inl h0
  · exact .inr ⟨g, cap, cur, hv, hg, (hb.block g (Array.getElem?_eq_some_iff.1 hh).1).trans hh, r⟩
theorem IntsAt.below {W W' : World} {B : Nat} {v : Value} {l : List Int} (h : IntsAt W B v l) (hb : Below W.heap.size W W') : IntsAt W' B v l := by
  obtain ⟨A, c, rfl, ho⟩ := h
  exact ⟨A, c, rfl, own_below_size ho hb⟩
theorem IntsAt.one (W : World) (B : Nat) (hB : B ≤ W.heap.size) (a : Int) : IntsAt (W.alloc (.cells #[.int .i64 a] 3)) B (.slice (some ⟨W.heap.size, 0, none⟩) 1 1) [a] :=
  ⟨_, _, rfl, rfl, .inr ⟨_, 1, #[.int .i64 a], rfl, hB, heap_alloc_new W _, Nat.le_refl _, by simp [maxLen], rfl, rfl⟩⟩
theorem IntsAt.two (W : World) (B : Nat) (hB : B ≤ W.heap.size) (a b : Int) : IntsAt (W.alloc (.cells #[.int .i64 a, .int .i64 b] 3)) B (.slice (some ⟨W.heap.size, 0, none⟩) 2 2) [a, b] :=
  ⟨_, _, rfl, rfl, .inr ⟨_, 2, #[.int .i64 a, .int .i64 b], rfl, hB, heap_alloc_new W _, Nat.le_refl _, by simp [maxLen], rfl, rfl⟩⟩
theorem one_drew (W : World) (B : Nat) (hB : B ≤ W.heap.size) (a : Int) : IntsAt ((W.drew).alloc (.cells #[.int .i64 a] 3)) B (.slice (some ⟨W.heap.size, 0, none⟩) 1 1) [a] := IntsAt.one W.drew B hB a
/-- what Exits hands back -/
def ExitsRes (w : World) (x : Ex) (e : Ending) (w' : World) : Prop := ∃ v u, e = .returned (.tuple #[v, u]) ∧ IntsAt w' w.heap.size v (exitRegs x) ∧ IntsAt w' w.heap.size u (exitTo x) ∧ Below w.heap.size w w'
theorem ex_none (w : World) (x : Ex) (E F : Obj) (h1 : exitRegs x = []) (h2 : exitTo x = []) : ExitsRes w x (.returned (.tuple #[.slice none 0 0, .slice none 0 0])) ((w.alloc E).alloc F) :=
  ⟨_, _, rfl, by rw [h1]; exact IntsAt.nil _ _, by rw [h2]; exact IntsAt.nil _ _, ((Below.refl _ _).alloc (Nat.le_refl _) _).alloc (by simp) _⟩
theorem ex_to (w : World) (x : Ex) (E F : Obj) (h1 : exitRegs x = []) (h2 : exitTo x = [x.to]) : ExitsRes w x (.returned (.tuple #[.slice none 0 0, .slice (some ⟨w.heap.size + 1 + 1, 0, none⟩) 1 1])) (((w.alloc E).alloc F).alloc (.cells #[.int .i64 x.to] 3)).drew := by
  have h := IntsAt.one ((w.alloc E).alloc F) w.heap.size (by simp; omega) x.to
  rw [World.size_alloc, World.size_alloc] at h
  exact ⟨_, _, rfl, by rw [h1]; exact IntsAt.nil _ _, by rw [h2]; exact h, ((((Below.refl _ _).alloc (Nat.le_refl _) _).alloc (by simp) _).alloc (by simp; omega) _).drew⟩
theorem ex_a (w : World) (x : Ex) (E : Obj) (h1 : exitRegs x = [x.a]) (h2 : exitTo x = []) : ExitsRes w x (.returned (.tuple #[.slice (some ⟨w.heap.size + 1, 0, none⟩) 1 1, .slice none 0 0])) ((w.alloc E).alloc (.cells #[.int .i64 x.a] 3)) := by
  have h := IntsAt.one (w.alloc E) w.heap.size (by simp) x.a
  rw [World.size_alloc] at h
  exact ⟨_, _, rfl, by rw [h1]; exact h, by rw [h2]; exact IntsAt.nil _ _, ((Below.refl _ _).alloc (Nat.le_refl _) _).alloc (by simp) _⟩
theorem ex_both (w : World) (x : Ex) (E : Obj) (h1 : exitRegs x = [x.a]) (h2 : exitTo x = [x.to, x.els]) : ExitsRes w x (.returned (.tuple #[.slice (some ⟨w.heap.size + 1, 0, none⟩) 1 1, .slice (some ⟨w.heap.size + 1 + 1, 0, none⟩) 2 2])) (((w.alloc E).alloc (.cells #[.int .i64 x.a] 3)).alloc (.cells #[.int .i64 x.to, .int .i64 x.els] 3)).drew := by
  have h := IntsAt.one (w.alloc E) w.heap.size (by simp) x.a
  rw [World.size_alloc] at h
  have k := IntsAt.two ((w.alloc E).alloc (.cells #[.int .i64 x.a] 3)) w.heap.size (by simp; omega) x.to x.els
  rw [World.size_alloc, World.size_alloc] at k
  have h' := h.below (((Below.refl _ ((w.alloc E).alloc (.cells #[.int .i64 x.a] 3))).alloc (Nat.le_refl _) (.cells #[.int .i64 x.to, .int .i64 x.els] 3)).drew)
  exact ⟨_, _, rfl, by rw [h1]; exact h', by rw [h2]; exact k, ((((Below.refl _ _).alloc (Nat.le_refl _) _).alloc (by simp) _).alloc (by simp; omega) _).drew⟩
set_option maxHeartbeats 1600000 in
theorem exits_91 (x : Ex) (w : World) : Calls Tryz.prog 91 #[exV x] w (ExitsRes w x) := by
  obtain ⟨k, a, d, to, els⟩ := x
  unfold exV
  by_cases h1 : k = 1
  · subst h1
    have HX := Lib.hid (fun E F => ex_to w ⟨1, a, d, to, els⟩ E F rfl rfl)
    go_enter Tryz.func91, Tryz.ntmps91
    go_wp2_with fail
    go_region
    all_goals
      go_wp2_with fail
      go_ret2
      exact HX.out _ _
  · by_cases h2 : k = 2
    · subst h2
      have HX := Lib.hid (fun E => ex_both w ⟨2, a, d, to, els⟩ E rfl rfl)
      clear h1
      go_enter Tryz.func91, Tryz.ntmps91
      go_wp2_with fail
      go_region
      all_goals
        go_wp2_with fail
        go_ret2
        exact HX.out _
    · by_cases h4 : k = 4
      · subst h4
        have HX := Lib.hid (fun E => ex_both w ⟨4, a, d, to, els⟩ E rfl rfl)
        clear h1 h2
        go_enter Tryz.func91, Tryz.ntmps91
        go_wp2_with fail
        go_region
        all_goals
          go_wp2_with fail
          go_ret2
          exact HX.out _
      · by_cases h3 : k = 3
        · subst h3
          clear h1 h2 h4
          by_cases ha : 0 ≤ a
          · have HX := Lib.hid (fun E => ex_a w ⟨3, a, d, to, els⟩ E (by simp [exitRegs, ha]) rfl)
            go_enter Tryz.func91, Tryz.ntmps91
            go_wp2_with fail
            go_ret2
            exact HX.out _
          · have HX := Lib.hid (fun E F => ex_none w ⟨3, a, d, to, els⟩ E F (by simp [exitRegs, ha]) rfl)
            go_enter Tryz.func91, Tryz.ntmps91
            go_wp2_with fail
            go_ret2
            exact HX.out _ _
        · have HX := Lib.hid (fun E F => ex_none w ⟨k, a, d, to, els⟩ E F (by simp [exitRegs, h2, h3, h4]) (by simp [exitTo, h1, h2, h4]))
          have e1 : (k == 1) = false := by simpa using h1
          have e2 : (k == 2) = false := by simpa using h2
          have e3 : (k == 3) = false := by simpa using h3
          have e4 : (k == 4) = false := by simpa using h4
          clear h1 h2 h3 h4
          go_enter Tryz.func91, Tryz.ntmps91
          go_wp2_with fail
          go_ret2
          exact HX.out _ _
end Go.Proofs.YthgbmhpfblgjcaaGreatDoor.fl
