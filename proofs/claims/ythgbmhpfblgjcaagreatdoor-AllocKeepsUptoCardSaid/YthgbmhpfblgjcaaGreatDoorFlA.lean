/-
  Sets of registers as they stand in memory: a mask in 64 words. No condition.
-/
import Derived.Test.YthgbmhpfblgjcaaGreatDoorExN
import Derived.Deep.RegionWith
import Derived.Deep.RegionHeld3
import Derived.Deep.CutRange
import Derived.Deep.DeepCutAuto
import Derived.Laws.BitsAllLaws
set_option linter.unusedVariables false
set_option linter.unusedSimpArgs false
namespace Go.Proofs.YthgbmhpfblgjcaaGreatDoor.fl
open Go.RowKit Go.Shelf
open M T ty
set_option linter.unusedVariables false
theorem reg_more {R R' r : Int} {u m : Bool} (h : regB R r u m = true) (hR : R ≤ R') : regB R' r u m = true := by
  unfold regB at h ⊢
  by_cases h1 : r = -1
  · rw [if_pos h1] at h ⊢; exact h
  · rw [if_neg h1] at h ⊢
    simp only [Bool.and_eq_true, decide_eq_true_eq] at h ⊢
    exact ⟨h.1, h.2.1, by omega⟩
theorem op_more {R R' sl sl' st st' : Int} {o : Op} (h : opB R sl st o = true) (hR : R ≤ R') (hs : sl ≤ sl') (ht : st ≤ st') : opB R' sl' st' o = true := by
  unfold opB at h ⊢
  cases hr : ruleP o.k with
  | none => rw [hr] at h; exact h
  | some r =>
    rw [hr] at h
    simp only [Bool.and_eq_true] at h ⊢
    obtain ⟨h1, h2, h3, h4, h5, h6, h7, h8⟩ := h
    refine ⟨reg_more h1 hR, reg_more h2 hR, reg_more h3 hR, h4, h5, h6, ?_, ?_⟩
    · rw [List.all_eq_true] at h7 ⊢
      exact fun x hx => reg_more (h7 x hx) hR
    · split
      · rename_i h
        rw [if_pos h] at h8
        simp only [decide_eq_true_eq] at h8 ⊢
        omega
      · rename_i h
        rw [if_neg h] at h8
        split
        · rename_i h'
          rw [if_pos h'] at h8
          simp only [decide_eq_true_eq] at h8 ⊢
          omega
        · rename_i h'
          rw [if_neg h'] at h8
          exact h8
/-- one number more behind a row of numbers of the call's own -/
theorem wpList_app_one {ops : Array Oper} {rest : List Oper} {o : Oper} {a : Act} {Q : Exit → Act → World → Prop} {w : World} (hgd : o.guard = none) (s x : Operand)
    (ho : o.op = .call { callee := .builtin .append, args := #[s, x], argTypes := #[27, 27] })
    {base g : Nat} {v : Value} {l : List Int} {r : Int} (hs : a.eval s = v) (hown : w.ownsRow base 3 1 v l.length (ints l)) (hx : a.eval x = .slice (some ⟨g, 0, none⟩) 1 1)
    (hg : w.heap[g]? = some (.cells #[.int .i64 r] 3 (0, 0))) (hlen : (l.length + 1) * 8 ≤ 140737488355328) (hbase : base ≤ w.heap.size)
    (h : ∀ v' w', w'.ownsRow base 3 1 v' (l ++ [r]).length (ints (l ++ [r])) → w.grownBy w' v.ownBlock → wpList Tryz.prog ops Q rest (a.put o.dst v') w') : wpList Tryz.prog ops Q (o :: rest) a w := by
  obtain ⟨i1, hj, hy0, hy1, hy2⟩ := info_parts info3
  have hml : l.length + 1 ≤ maxLen := by simp only [maxLen]; omega
  have hrd : Rd w w.heap.size (some ⟨g, 0, none⟩) (ints [r]) := fun _ => ⟨⟨g, 0, none⟩, rfl, (Array.getElem?_eq_some_iff.1 hg).1, fun j u hu => by
    rcases j with _ | j
    · have : u = .int .i64 r := by simpa [ints] using hu.symm
      rw [this]
      exact Go.Joins.cell_of_block hg 0
    · simp [ints] at hu⟩
  refine wpList_append_rd w hgd s x 27 ho base 3 i1 _ 1 8 Tryz.underlying27 hj hy0 hy1 hy2 rfl (by omega) v l.length (ints l) hs hown _ _ 1 1 (ints [r]) hx (by simp [ints]) hrd (fun u hu => by
    have : u = .int .i64 r := by simpa [ints] using hu
    rw [this]; rfl) hml hlen hbase fun v' w' h1 h2 h3 => h v' w' ?_ h2
  have e1 : ints l ++ ints [r] = ints (l ++ [r]) := by simp [ints]
  rw [e1] at h1
  rw [List.length_append]
  exact h1
theorem keepO {w W : World} {o : Op} {AA : Option Addr} {ac g : Nat} (h : w.heap[g]? = some (.cells #[.int .i64 o.k, .int .i64 o.d, .int .i64 o.a, .int .i64 o.b, .int .i64 o.imm, .string o.text, .slice AA o.args.length ac] 72 (0, 0))) (hb : Below w.heap.size w W) :
    W.cell? ⟨g, 0, none⟩ = some (.int .i64 o.k) ∧ W.cell? ⟨g, 1, none⟩ = some (.int .i64 o.d) ∧ W.cell? ⟨g, 2, none⟩ = some (.int .i64 o.a) ∧ W.cell? ⟨g, 3, none⟩ = some (.int .i64 o.b) ∧ W.cell? ⟨g, 4, none⟩ = some (.int .i64 o.imm) ∧ W.cell? ⟨g, 5, none⟩ = some (.string o.text) ∧ W.cell? ⟨g, 6, none⟩ = some (.slice AA o.args.length ac) := by
  have h' := (hb.block g (Array.getElem?_eq_some_iff.1 h).1).trans h
  exact ⟨Go.Joins.cell_of_block h' 0, Go.Joins.cell_of_block h' 1, Go.Joins.cell_of_block h' 2, Go.Joins.cell_of_block h' 3, Go.Joins.cell_of_block h' 4, Go.Joins.cell_of_block h' 5, Go.Joins.cell_of_block h' 6⟩
theorem lit_block {B n c g : Nat} (h : Value.ownBlock (.slice (some ⟨B, 0, none⟩) n c) = some g) : B = g := by simpa [Value.ownBlock] using h
/-- the registers that an operation reads stand -/
def readsL (o : Op) : List Int := o.a :: o.b :: o.args
theorem reads_eq (o : Op) : readsOp o = (readsL o).filter (fun r => decide (0 ≤ r)) := rfl
set_option maxRecDepth 20000 in
set_option maxHeartbeats 16000000 in
theorem reads_93 (R sl st : Int) (o : Op) (AA : Option Addr) (ac : Nat) (w : World) (hok : opB R sl st o = true) (hR : R ≤ 4096) (hsl : sl ≤ 4611686018427387904) (hst : st ≤ 4611686018427387904) (hK : KeysIn w) (ht : o.text.size ≤ maxLen) (hn : (o.args.length + 2) * 8 ≤ 140737488355328) (hA : Rd w w.heap.size AA (ints o.args)) :
    Calls Tryz.prog 93 #[opV o AA ac] w fun e w' => ∃ v, e = .returned v ∧ IntsAt w' w.heap.size v (readsOp o) ∧ Below w.heap.size w w' := by
  have hop := op_more hok hR hsl hst
  have HOP : Hid (∀ W, Below w.heap.size w W → Calls Tryz.prog 120 #[.agg #[.int .i64 4096, .int .i64 4611686018427387904, .int .i64 4611686018427387904], opV o AA ac] W fun e w' => e = .returned (.bool true) ∧ Below W.heap.size W w') :=
    Lib.hid fun W hb => by
      have h := op_120 4096 4611686018427387904 4611686018427387904 o AA ac W (hK.below hb) ht (by simp only [maxLen]; omega) ((hA.below hb).more hb.size)
      rw [hop] at h
      exact h
  have HB0 := Lib.hid ((Below.refl w.heap.size w).alloc (Nat.le_refl _) (.cells #[.int .i64 o.k, .int .i64 o.d, .int .i64 o.a, .int .i64 o.b, .int .i64 o.imm, .string o.text, .slice AA o.args.length ac] 72))
  have HA := Lib.hid hA
  have HN := Lib.hid hn
  have hz := heap_alloc_new w (.cells #[.int .i64 o.k, .int .i64 o.d, .int .i64 o.a, .int .i64 o.b, .int .i64 o.imm, .string o.text, .slice AA o.args.length ac] 72)
  have HZ := Lib.hid hz
  have HR := Lib.hid ((Below.refl (w.heap.size + 1) (w.alloc (.cells #[.int .i64 o.k, .int .i64 o.d, .int .i64 o.a, .int .i64 o.b, .int .i64 o.imm, .string o.text, .slice AA o.args.length ac] 72))).drew)
  have K0 := Lib.hid (keepO hz (Below.refl _ _))
  clear hok hR hsl hst hK ht hA hop hz hn
  unfold opV at HOP ⊢
  go_enter Tryz.func93, Tryz.ntmps93
  go_upto_region 1 with fail
  go_cut [9] (fun s9 wc => s9 = .bool false ∧ Below (w.heap.size + 1) (w.alloc (.cells #[.int .i64 o.k, .int .i64 o.d, .int .i64 o.a, .int .i64 o.b, .int .i64 o.imm, .string o.text, .slice AA o.args.length ac] 72)) wc)
  case first =>
    go_region_held3 (fun w' => w'.cell? ⟨w.heap.size, 0, none⟩ = some (.int .i64 o.k) ∧ w'.cell? ⟨w.heap.size, 1, none⟩ = some (.int .i64 o.d) ∧ w'.cell? ⟨w.heap.size, 2, none⟩ = some (.int .i64 o.a) ∧ w'.cell? ⟨w.heap.size, 3, none⟩ = some (.int .i64 o.b) ∧ w'.cell? ⟨w.heap.size, 4, none⟩ = some (.int .i64 o.imm) ∧ w'.cell? ⟨w.heap.size, 5, none⟩ = some (.string o.text) ∧ w'.cell? ⟨w.heap.size, 6, none⟩ = some (.slice AA o.args.length ac))
      (first | exact K0.out | exact K1.out | exact K2.out)
      (first
        | (go_at_call 119; refine (any_119 _).mono ?_; rintro e w1 ⟨rfl, hb1⟩; have B1 := Lib.hid ((HR.out).trans (hb1.mono (by simp))); have K1 := Lib.hid (keepO HZ.out (B1.out.mono (by simp))); clear hb1)
        | (go_at_call 120; refine (HOP.out _ (HB0.out.trans (B1.out.mono (by simp)))).mono ?_; rintro e w2 ⟨rfl, hb2⟩; have B2 := Lib.hid (B1.out.trans (hb2.mono (by have := B1.out.size; simpa using this))); have K2 := Lib.hid (keepO HZ.out (B2.out.mono (by simp))); clear hb2))
    go_wp2_with fail
    go_meet
    case rel => exact ⟨rfl, B2.out⟩
  case rest =>
    obtain ⟨rfl, hbc⟩ := hcut
    have hs0 := hbc.size
    simp only [World.size_alloc] at hs0
    have hwl : w.heap.size < wc.heap.size := by omega
    have hwn : w.heap.size ≠ wc.heap.size := by omega
    have HBC := Lib.hid (HB0.out.trans (hbc.mono (by omega)))
    obtain ⟨c0, c1, c2, c3, c4, c5, c6⟩ := keepO HZ.out (hbc.mono (by simp))
    obtain ⟨i1, hj, hy0, hy1, hy2⟩ := info_parts info3
    have HI2 : Hid ((wc.alloc (.cells #[.int .i64 o.a, .int .i64 o.b] 3)).ownsRow wc.heap.size 3 1 (.slice (some ⟨wc.heap.size, 0, none⟩) 2 2) 2 (ints [o.a, o.b])) := Lib.hid (by
      obtain ⟨A, c, he, ho⟩ := IntsAt.two wc wc.heap.size (Nat.le_refl _) o.a o.b
      rw [he]
      exact ho)
    have HA2 : Hid (Rd (wc.alloc (.cells #[.int .i64 o.a, .int .i64 o.b] 3)) w.heap.size AA (ints o.args)) := Lib.hid ((HA.out.below HBC.out).alloc (by omega) _)
    have HNL := Lib.hid (show 2 + o.args.length ≤ maxLen from by have := HN.out; simp only [maxLen]; omega)
    have HNB := Lib.hid (show (2 + o.args.length) * 8 ≤ 140737488355328 from by have := HN.out; omega)
    clear hbc K0 HR
    go_wp2_with (at_builtin; refine wpList_append_rd _ rfl (.tmp 14) (.tmp 16) 27 rfl wc.heap.size 3 i1 _ 1 8 Tryz.underlying27 hj hy0 hy1 hy2 rfl (by omega) _ 2 (ints [o.a, o.b]) rfl HI2.out _ AA o.args.length ac (ints o.args) rfl (by simp [ints]) HA2.out (fun u hu => by obtain ⟨x, -, rfl⟩ := List.mem_map.1 hu; rfl) HNL.out HNB.out (by simp) ?_; intro v0 w0 hown0 hg0 hat0; obtain ⟨A0, k0, rfl, hk1, hk2⟩ := own_form hown0)
    have hb0 : Below wc.heap.size wc w0 := ((Below.refl _ _).alloc (Nat.le_refl _) _).grown hg0 (by simp) (fun g hg => by have := lit_block hg; omega)
    have hl0 : (readsL o).length = 2 + o.args.length := by simp [readsL]; omega
    have HRD : Hid (Rd w0 w0.heap.size A0 (ints (readsL o))) := Lib.hid (by
      have h := Rd.of_own hown0
      have e : ints [o.a, o.b] ++ ints o.args = ints (readsL o) := by simp [ints, readsL]
      rwa [e] at h)
    have HL0 := Lib.hid hl0
    have HB1 := Lib.hid (HBC.out.trans (hb0.mono HBC.out.size))
    clear hb0 hown0 hg0 hat0 hk1 hk2 c0 c1 c2 c3 c4 c5 c6
    have HRE := Lib.hid (reads_eq o)
    generalize readsL o = L at *
    rw [← hl0]
    have hl2 : (2 : Int) + (o.args.length : Int) = (L.length : Nat) := by omega
    have HL2 := Lib.hid hl2
    clear hl0 hl2
    go_loopg [19, 3] L.length (fun N t v wr => ∃ i : Nat, i ≤ L.length ∧ N = L.length - i ∧ t = .int .i64 i ∧ Below w0.heap.size w0 wr ∧ wr.ownsRow w0.heap.size 3 1 v ((L.take i).filter (fun r => decide (0 ≤ r))).length (ints ((L.take i).filter (fun r => decide (0 ≤ r)))))
    case atStart => exact ⟨0, by omega, rfl, rfl, Below.refl _ _, rfl, .inl ⟨rfl, rfl⟩⟩
    case round =>
      obtain ⟨i, hi, rfl, rfl, hb, hown⟩ := hrel
      have HB := Lib.hid hb
      have HO := Lib.hid hown
      have hle : ((L.take i).filter (fun r => decide (0 ≤ r))).length ≤ i := Nat.le_trans (List.length_filter_le _ _) (by rw [List.length_take]; omega)
      have HLE := Lib.hid hle
      clear hle hown hb
      by_cases hlt : i < L.length
      · have hltI : (i : Int) < 2 + (o.args.length : Int) := by have := HL2.out; omega
        obtain ⟨ad, p, x, rfl, hxk, hp, -, a1⟩ := rd_int (HRD.out.below HB.out) (k := i) hlt
        have HT : Hid ((L.take (i + 1)).filter (fun r => decide (0 ≤ r)) = (L.take i).filter (fun r => decide (0 ≤ r)) ++ (if 0 ≤ x then [x] else [])) := Lib.hid (by
          rw [List.take_add_one, hxk, List.filter_append]
          by_cases h : 0 ≤ x <;> simp [h])
        have hbd : (((L.take i).filter (fun r => decide (0 ≤ r))).length + 1) * 8 ≤ 140737488355328 := by have := HLE.out; have := HNB.out; omega
        have HBD := Lib.hid hbd
        have hib : (i : Int) < 140737488355328 := by have := HNB.out; have := HL2.out; omega
        clear hbd hxk
        generalize (L.take i).filter (fun r => decide (0 ≤ r)) = F at *
        by_cases hx : 0 ≤ x
        · rw [if_pos hx] at HT
          go_wp2_with (at_builtin; refine wpList_app_one (w := wr.alloc (.cells #[.int .i64 x] 3)) rfl (.tmp 25) (.tmp 27) rfl (r := x) rfl (HO.out.alloc _) rfl (heap_alloc_new wr _) HBD.out (by have := HB.out.size; simp; omega) ?_; intro v1 w1 ho1 hg1)
          have hb1 : Below w0.heap.size w0 w1 := (HB.out.alloc HB.out.size _).grown hg1 (by have := HB.out.size; simp; omega) (fun g hg => (HO.out.lt g hg).1)
          go_roundg (L.length - (i + 1))
          case measure => omega
          case rel => exact ⟨i + 1, by omega, rfl, by go_num, hb1, by rw [HT.out]; exact ho1⟩
        · rw [if_neg hx, List.append_nil] at HT
          go_wp2_with fail
          go_roundg (L.length - (i + 1))
          case measure => omega
          case rel => exact ⟨i + 1, by omega, rfl, by go_num, HB.out, by rw [HT.out]; exact HO.out⟩
      · obtain rfl : i = L.length := by omega
        rw [List.take_length] at HO
        have hge : ¬ (L.length : Int) < 2 + (o.args.length : Int) := by have := HL2.out; omega
        go_wp2_with fail
        go_ret
        obtain ⟨A9, c9, he9, -, -⟩ := own_form HO.out
        refine ⟨_, rfl, ?_, HB1.out.trans (HB.out.mono HB1.out.size)⟩
        rw [HRE.out, he9]
        rw [he9] at HO
        exact ⟨A9, c9, rfl, own_base HO.out HB1.out.size⟩
end Go.Proofs.YthgbmhpfblgjcaaGreatDoor.fl
namespace Go.Proofs.YthgbmhpfblgjcaaGreatDoor.fl
open Go.RowKit Go.Shelf
open M T ty
set_option linter.unusedVariables false
/-- a set's i-th word -/
def word (m i : Nat) : Nat := m / 2 ^ (64 * i) % 2 ^ 64
theorem word_lt (m i : Nat) : word m i < 18446744073709551616 := Nat.mod_lt _ (by decide)
theorem bit_word (m i j : Nat) : (word m i).testBit j = (decide (j < 64) && m.testBit (64 * i + j)) := by
  unfold word
  rw [Nat.testBit_mod_two_pow, Nat.testBit_div_two_pow, Nat.add_comm]
theorem word_inj {a b : Nat} (ha : a < 2 ^ 4096) (hb : b < 2 ^ 4096) (h : ∀ i, i < 64 → word a i = word b i) : a = b := by
  apply Nat.eq_of_testBit_eq
  intro j
  rcases Nat.lt_or_ge j 4096 with hj | hj
  · have e := congrArg (fun x => x.testBit (j % 64)) (h (j / 64) (by omega))
    simp only [bit_word] at e
    have hm : j % 64 < 64 := Nat.mod_lt _ (by decide)
    have hd : 64 * (j / 64) + j % 64 = j := by omega
    rw [decide_eq_true hm, hd, Bool.true_and, Bool.true_and] at e
    exact e
  · have t : ∀ x : Nat, x < 2 ^ 4096 → x.testBit j = false := fun x hx => Nat.testBit_lt_two_pow (lt_up (a := 4096) (b := j) hx hj)
    rw [t a ha, t b hb]
theorem word_put (m n i : Nat) : word (m ||| 2 ^ n) i = if i = n / 64 then word m i ||| 2 ^ (n % 64) else word m i := by
  apply Nat.eq_of_testBit_eq
  intro j
  by_cases hi : i = n / 64
  · rw [if_pos hi, Nat.testBit_or, bit_word, bit_word, Nat.testBit_or, Nat.testBit_two_pow, Nat.testBit_two_pow]
    by_cases hj : j < 64
    · rw [decide_eq_true hj, Bool.true_and, Bool.true_and]
      congr 1
      rw [decide_eq_decide]
      omega
    · rw [decide_eq_false hj, Bool.false_and, Bool.false_and, Bool.false_or]
      rw [eq_comm, decide_eq_false_iff_not]
      omega
  · rw [if_neg hi, bit_word, bit_word, Nat.testBit_or, Nat.testBit_two_pow]
    by_cases hj : j < 64
    · have : decide (n = 64 * i + j) = false := by rw [decide_eq_false_iff_not]; omega
      rw [this, Bool.or_false]
    · rw [decide_eq_false hj, Bool.false_and, Bool.false_and]
/-- m without n -/
def cut (m n : Nat) : Nat := m &&& (2 ^ 4096 - 1 - 2 ^ n)
theorem bit_cut (m n j : Nat) (hn : n < 4096) (hm : m < 2 ^ 4096) : (cut m n).testBit j = (m.testBit j && !decide (n = j)) := by
  unfold cut
  have hlt : 2 ^ n < 2 ^ 4096 := pow_up (b := 4096) hn
  have e : 2 ^ 4096 - 1 - 2 ^ n = 2 ^ 4096 - (2 ^ n + 1) := by omega
  rw [e, Nat.testBit_and, Nat.testBit_two_pow_sub_succ hlt, Nat.testBit_two_pow]
  rcases Nat.lt_or_ge j 4096 with h | h
  · rw [decide_eq_true h, Bool.true_and]
  · have : m < 2 ^ j := lt_up (a := 4096) hm h
    rw [Nat.testBit_lt_two_pow this]; simp
theorem word_cut (m n i : Nat) (hn : n < 4096) (hm : m < 2 ^ 4096) : word (cut m n) i = if i = n / 64 then word m i &&& (18446744073709551615 - 2 ^ (n % 64)) else word m i := by
  apply Nat.eq_of_testBit_eq
  intro j
  by_cases hi : i = n / 64
  · have hlt : 2 ^ (n % 64) < 2 ^ 64 := Nat.pow_lt_pow_right (by decide) (Nat.mod_lt _ (by decide))
    have e : 18446744073709551615 - 2 ^ (n % 64) = 2 ^ 64 - (2 ^ (n % 64) + 1) := by omega
    rw [if_pos hi, e, Nat.testBit_and, bit_word, bit_word, bit_cut m n _ hn hm, Nat.testBit_two_pow_sub_succ hlt, Nat.testBit_two_pow]
    by_cases hj : j < 64
    · rw [decide_eq_true hj, Bool.true_and, Bool.true_and, Bool.true_and]
      congr 2
      rw [decide_eq_decide]
      omega
    · rw [decide_eq_false hj]; simp
  · rw [if_neg hi, bit_word, bit_word, bit_cut m n _ hn hm]
    by_cases hj : j < 64
    · have : decide (n = 64 * i + j) = false := by rw [decide_eq_false_iff_not]; omega
      rw [this]; simp
    · rw [decide_eq_false hj, Bool.false_and, Bool.false_and]
theorem word_or (a b i : Nat) : word (a ||| b) i = word a i ||| word b i := by
  apply Nat.eq_of_testBit_eq
  intro j
  rw [bit_word, Nat.testBit_or, Nat.testBit_or, bit_word, bit_word]
  cases decide (j < 64) <;> simp
/-- a set's cells -/
def setCells (m : Nat) (R : Int) : List Value := (List.range 64).map (fun i => .int .u64 (word m i)) ++ [.int .i64 R]
def SetAt (W : World) (b m : Nat) (R : Int) : Prop := W.heap[b]? = some (.cells (setCells m R).toArray 69 (0, 0))
theorem SetAt.wd {W : World} {b m : Nat} {R : Int} (h : SetAt W b m R) {i : Nat} (hi : i < 64) : W.cell? ⟨b, i, none⟩ = some (.int .u64 (word m i)) := by
  have := Go.Joins.cell_of_block h i
  rw [this, List.getElem?_toArray]
  unfold setCells
  rw [List.getElem?_append_left (by simpa using hi), List.getElem?_map, List.getElem?_range hi]
  rfl
theorem SetAt.most {W : World} {b m : Nat} {R : Int} (h : SetAt W b m R) : W.cell? ⟨b, 64, none⟩ = some (.int .i64 R) := by
  have := Go.Joins.cell_of_block h 64
  rw [this]
  simp [setCells]
theorem has_bit (m n : Nat) : (bits .and .u64 (((word m (n / 64) : Nat) : Int) / 2 ^ (n % 64)) 1 == 1) = m.testBit n := by
  have e : ((word m (n / 64) : Nat) : Int) / 2 ^ (n % 64) = ((word m (n / 64) / 2 ^ (n % 64) : Nat) : Int) := by simp
  have hl : word m (n / 64) / 2 ^ (n % 64) < 18446744073709551616 := Nat.lt_of_le_of_lt (Nat.div_le_self _ _) (word_lt _ _)
  have h := u64_and_nat (word m (n / 64) / 2 ^ (n % 64)) 1 hl (by decide)
  rw [e]
  have h' : bits .and .u64 ((word m (n / 64) / 2 ^ (n % 64) : Nat) : Int) 1 = ((word m (n / 64) / 2 ^ (n % 64) &&& 1 : Nat) : Int) := h
  rw [h', Nat.and_one_is_mod]
  have hb := bit_word m (n / 64) (n % 64)
  have hd : 64 * (n / 64) + n % 64 = n := by omega
  rw [hd, decide_eq_true (Nat.mod_lt _ (by decide)), Bool.true_and] at hb
  rw [← hb, Nat.testBit_eq_decide_div_mod_eq]
  rcases Nat.mod_two_eq_zero_or_one (word m (n / 64) / 2 ^ (n % 64)) with h | h <;> rw [h] <;> rfl
set_option maxRecDepth 4000 in
theorem has_31 (b m : Nat) (R : Int) (n : Nat) (w : World) (hn : n < 4096) (h : SetAt w b m R) :
    Calls Tryz.prog 31 #[.pointer (some ⟨b, 0, none⟩), .int .i64 n] w fun e w' => e = .returned (.bool (m.testBit n)) ∧ w' = w := by
  have hw := h.wd (i := n / 64) (by omega)
  have HB := Lib.hid (has_bit m n)
  clear h
  go_enter Tryz.func31, Tryz.ntmps31
  go_wp2_with fail
  go_ret
  exact ⟨ret_bool HB.out, rfl⟩
theorem grown_setCell (w : World) (a : Addr) (u : Value) : w.grownBy (w.setCell a u) (some a.block) :=
  ⟨rfl, rfl, rfl, by simp [World.setCell], fun k _ hne => Below.heap_setCell _ _ _ _ (fun e => hne (by rw [e]))⟩
theorem grown_drew {w w' : World} {row : Option Nat} (h : w.grownBy w' row) : w.grownBy w'.drew row := ⟨h.os, h.tape, h.output, h.size, h.block⟩
theorem set_cells (m m' : Nat) (R : Int) (i : Nat) (hi : i < 64) (ho : ∀ j, j < 64 → j ≠ i → word m' j = word m j) : (setCells m R).set i (.int .u64 (word m' i)) = setCells m' R := by
  apply List.ext_getElem?
  intro j
  unfold setCells
  rw [List.getElem?_set]
  by_cases hij : i = j
  · subst hij
    rw [if_pos rfl, if_pos (by simp; omega), List.getElem?_append_left (by simpa using hi), List.getElem?_map, List.getElem?_range hi]
    rfl
  · rw [if_neg hij]
    rcases Nat.lt_or_ge j 64 with hj | hj
    · rw [List.getElem?_append_left (by simpa using hj), List.getElem?_append_left (by simpa using hj), List.getElem?_map, List.getElem?_map, List.getElem?_range hj]
      simp only [Option.map_some]
      rw [ho j hj (fun e => hij e.symm)]
    · rw [List.getElem?_append_right (by simpa using hj), List.getElem?_append_right (by simpa using hj)]
      simp
theorem SetAt.set {w : World} {b m m' : Nat} {R : Int} (h : SetAt w b m R) {i : Nat} (hi : i < 64) {v : Int} (hv : v = (word m' i : Nat)) (ho : ∀ j, j < 64 → j ≠ i → word m' j = word m j) : SetAt (w.setCell ⟨b, i, none⟩ (.int .u64 v)) b m' R := by
  have h1 := heap_set (o := i) h (.int .u64 v)
  rw [List.setIfInBounds_toArray, hv, set_cells m m' R i hi ho] at h1
  rw [hv]
  exact h1
theorem two_wrap (n : Nat) : IntKind.u64.wrap ((2 : Int) ^ (n % 64)) = ((2 ^ (n % 64) : Nat) : Int) := by
  have hlt : 2 ^ (n % 64) < 2 ^ 64 := Nat.pow_lt_pow_right (by decide) (Nat.mod_lt _ (by decide))
  have e : ((2 : Int) ^ (n % 64)) = ((2 ^ (n % 64) : Nat) : Int) := by simp
  rw [e, IntKind.wrap_u64]
  generalize 2 ^ (n % 64) = x at hlt
  omega
theorem put_val (m n : Nat) : bits .or .u64 ((word m (n / 64) : Nat) : Int) (IntKind.u64.wrap ((2 : Int) ^ (n % 64))) = ((word (m ||| 2 ^ n) (n / 64) : Nat) : Int) := by
  rw [two_wrap, word_put, if_pos rfl]
  exact u64_or_nat _ _ (word_lt _ _) (Nat.pow_lt_pow_right (by decide) (Nat.mod_lt n (by decide : 0 < 64)))
theorem drop_val (m n : Nat) (hn : n < 4096) (hm : m < 2 ^ 4096) : bits .andNot .u64 ((word m (n / 64) : Nat) : Int) (IntKind.u64.wrap ((2 : Int) ^ (n % 64))) = ((word (cut m n) (n / 64) : Nat) : Int) := by
  rw [two_wrap, word_cut m n _ hn hm, if_pos rfl]
  exact u64_andNot_nat _ _ (word_lt _ _) (Nat.pow_lt_pow_right (by decide) (Nat.mod_lt n (by decide : 0 < 64)))
set_option maxRecDepth 4000 in
theorem put_29 (b m : Nat) (R : Int) (n : Nat) (w : World) (hn : n < 4096) (h : SetAt w b m R) :
    Calls Tryz.prog 29 #[.pointer (some ⟨b, 0, none⟩), .int .i64 n] w fun e w' => e = .returned (.tuple #[]) ∧ w.grownBy w' (some b) ∧ SetAt w' b (m ||| 2 ^ n) R := by
  have hw := h.wd (i := n / 64) (by omega)
  have hf : w.frozen? ⟨b, n / 64, none⟩ = false := Go.Joins.unfrozen_of_block h _
  have hs := h.set (m' := m ||| 2 ^ n) (i := n / 64) (by omega) (put_val m n) (fun j _ hj => by rw [word_put, if_neg hj])
  have HS := Lib.hid hs
  clear h hs
  go_enter Tryz.func29, Tryz.ntmps29
  go_region
  go_end0
  exact ⟨rfl, grown_drew (grown_setCell w ⟨b, n / 64, none⟩ _), HS.out⟩
set_option maxRecDepth 4000 in
theorem drop_64 (b m : Nat) (R : Int) (n : Nat) (w : World) (hn : n < 4096) (hm : m < 2 ^ 4096) (h : SetAt w b m R) :
    Calls Tryz.prog 64 #[.pointer (some ⟨b, 0, none⟩), .int .i64 n] w fun e w' => e = .returned (.tuple #[]) ∧ w.grownBy w' (some b) ∧ SetAt w' b (cut m n) R := by
  have hw := h.wd (i := n / 64) (by omega)
  have hf : w.frozen? ⟨b, n / 64, none⟩ = false := Go.Joins.unfrozen_of_block h _
  have hs := h.set (m' := cut m n) (i := n / 64) (by omega) (drop_val m n hn hm) (fun j _ hj => by rw [word_cut m n _ hn hm, if_neg hj])
  have HS := Lib.hid hs
  clear h hs hm
  go_enter Tryz.func64, Tryz.ntmps64
  go_wp2_with fail
  go_region
  go_end0
  exact ⟨rfl, grown_drew (grown_setCell w ⟨b, n / 64, none⟩ _), HS.out⟩
set_option maxRecDepth 4000 in
theorem drop_none (b : Nat) (n : Int) (w : World) (hn : n < 0) :
    Calls Tryz.prog 64 #[.pointer (some ⟨b, 0, none⟩), .int .i64 n] w fun e w' => e = .returned (.tuple #[]) ∧ w' = w := by
  have h0 : ¬ 0 ≤ n := by omega
  go_enter Tryz.func64, Tryz.ntmps64
  go_wp2_with fail
  go_end0
  exact ⟨rfl, rfl⟩
end Go.Proofs.YthgbmhpfblgjcaaGreatDoor.fl
