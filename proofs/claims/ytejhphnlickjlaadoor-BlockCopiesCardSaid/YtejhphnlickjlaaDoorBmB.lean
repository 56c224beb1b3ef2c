/-
  The contract of Load of package block at pointers. Condition: a store stands in memory.
-/
import Derived.Test.YtejhphnlickjlaaDoorBmA
import Derived.Laws.StructEq
set_option linter.unusedVariables false
set_option linter.unusedSimpArgs false
namespace Go.Proofs.YtejhphnlickjlaaDoor.bl
open Go.RowKit
open M ty
set_option linter.unusedVariables false
theorem sih24 : Tryd.prog.stoodInHeld 24 = false := by kernel_rfl
theorem egt24 : Tryd.prog.eqGuardType Tryd.prog.depth 24 = false := by kernel_rfl
theorem fo24 : (Tryd.prog.fieldsOf 24).toList.map (fun f => (f.name, f.type, f.offset)) = [("Kind", 3, 0), ("Int", 3, 1), ("Off", 3, 2)] := by kernel_rfl
theorem und24 : Tryd.prog.underlying 24 = some (.struct (Tryd.prog.fieldsOf 24)) := by kernel_rfl
theorem grdV (op : BinOp) (x y : Operand) (xs ys : Array Value) (W : World) : (eqGuard op 24 x y (.agg xs) (.agg ys)).run Tryd.prog W = .ok () W := run_eqGuard_agg W op 24 x y xs ys egt24
theorem part3 (xs : Array Value) (r : Nat) (v : Value) (h : xs[r]? = some v) (W : World) : (part 3 xs r).run Tryd.prog W = .ok v W := by
  have ha : (isAgg 3).run Tryd.prog W = .ok false W := by kernel_rfl
  unfold part
  simp [ha, h]
theorem eqI (d : Nat) (a b : Int) (W : World) : (Op.equalIn (d + 1) 3 (.int .i64 a) (.int .i64 b)).run Tryd.prog W = .ok (a == b) W := run_equalIn_int W d 3 .i64 .i64 a b Tryd.underlying3
theorem eqV (a i o a' i' o' : Int) (W : World) : (binOp .neq 24 (.agg #[.int .i64 a, .int .i64 i, .int .i64 o]) (.agg #[.int .i64 a', .int .i64 i', .int .i64 o'])).run Tryd.prog W = .ok (.bool (!(a == a' && (i == i' && o == o')))) W := by
  rw [run_neq_struct, run_equalIn_agg W 9999 24 _ _ und24 sih24]
  have h := fo24
  generalize (Tryd.prog.fieldsOf 24).toList = fs at *
  rcases fs with _ | ⟨f, _ | ⟨f1, _ | ⟨f2, _ | ⟨f3, r⟩⟩⟩⟩
  case cons.cons.cons.nil =>
    simp only [List.map_cons, List.map_nil, List.cons.injEq, Prod.mk.injEq] at h
    obtain ⟨⟨n0, t0, o0⟩, ⟨n1, t1, o1⟩, ⟨n2, t2, o2⟩, _⟩ := h
    simp [Op.eqFields, n0, t0, o0, n1, t1, o1, n2, t2, o2, part3, eqI]
    by_cases ha : a = a' <;> by_cases hi : i = i' <;> by_cases ho : o = o' <;> simp [ha, hi, ho]
  all_goals simp at h
/-- is byte number j a piece of x0's pointer, in its place? -/
def Piece (x0 : By) (zs : List By) (j : Nat) : Prop := ∀ x, zs[j]? = some x → x.k = 2 ∧ x.n = j ∧ x.a = x0.a ∧ x.i = x0.i ∧ x.o = x0.o
section
variable {w W : World} {B g N : Nat} {st : St} {L : Lay} {k i o a x c E : Int} {s : ByteArray} {n p y q cap : Nat} {zs : List By} {b : Bool} {x0 : By}
set_option maxRecDepth 20000 in
set_option maxHeartbeats 6400000 in
theorem load_ptr (hn : ((n : Int) == 0) = false) (hn1 : ¬ (n : Int) = 0) (hn4 : n ≤ 4) (hq : q ≤ 131072) (HW : Hid (WidthD w k i o s n)) (HR : Hid (SeeD w g k i o n p y q cap zs)) (hr : Int.tmod o n = 0) (HC : Hid (HasD w k i o n y q cap zs false)) (HI : Hid (IntD s false))
    (Hl : Hid (zs.length = n)) (Hx : Hid (zs[0]? = some x0)) :
    Calls Tryd.prog 22 #[.pointer (some ⟨g, 0, none⟩), .agg #[.int .i64 k, .int .i64 i, .int .i64 o], .string s] w fun e w' =>
      ((∀ j, j < n → Piece x0 zs j) ∧ e = .returned (.tuple #[.agg #[.int .i64 x0.a, .int .i64 x0.i, .int .i64 x0.o], .int .i64 0]) ∨ (∃ j, j < n ∧ ¬ Piece x0 zs j) ∧ e = .returned (.tuple #[.agg #[.int .i64 0, .int .i64 0, .int .i64 0], .int .i64 144])) ∧ Below w.heap.size w w' := by
  have hgv := grdV
  have hev := eqV
  go_enter Tryd.func22, Tryd.ntmps22
  go_wp2_with (first
    | (go_at_call 58; refine (HW.out _ (EnvD.new w k i o)).mono ?_; rintro e w1 ⟨rfl, h1⟩; obtain ⟨v0, v1, v2⟩ := h1.vv; have H1 := Lib.hid h1; clear h1)
    | (go_at_call 59; refine (HR.out _ H1.out).mono ?_; rintro e w2 ⟨rfl, h2, hb, hy⟩; clear v0 v1 v2; obtain ⟨v0, v1, v2⟩ := h2.vv; have H2 := Lib.hid h2; have HB := Lib.hid hb; have HY := Lib.hid hy; clear h2 hb hy)
    | (go_at_call 60; refine (HC.out _ H2.out HB.out HY.out).mono ?_; rintro e w3 ⟨rfl, h3, hb, hy⟩; have H3 := Lib.hid h3; have HB3 := Lib.hid hb; have HY3 := Lib.hid hy; clear h3 hb hy)
    | (go_at_call 62; refine (HI.out _).mono ?_; rintro e w4 ⟨rfl, rfl⟩))
  rename_i w4
  go_loopw [49] (fun t wr => ∃ m : Nat, m ≤ n ∧ t = .int .i64 m ∧ (∀ j, j < m → Piece x0 zs j) ∧ EnvD w wr k i o ∧ BytesAt wr y (q * 6) zs ∧ y < wr.heap.size) (fun t _ => n - (intOf t).toNat)
  case atStart => exact ⟨0, by omega, rfl, fun j hj => by omega, H3.out, HB3.out, HY3.out⟩
  case round =>
    obtain ⟨m, hm, rfl, hgd, hE, hb, hy⟩ := hrel
    clear v0 v1 v2
    obtain ⟨z0, z1, z2, z3, z4, z5⟩ := hb 0 _ Hx.out
    by_cases hlt : m < n
    · have hm' : m < zs.length := by rw [Hl.out]; exact hlt
      have hx : zs[m]? = some zs[m] := List.getElem?_eq_getElem hm'
      obtain ⟨a0, a1, a2, a3, a4, a5⟩ := hb m _ hx
      simp only [Nat.zero_mul, Nat.add_zero] at z0 z1 z2 z3 z4 z5
      have HX := Lib.hid hx
      have HE := Lib.hid hE
      have HBB := Lib.hid hb
      have HG := Lib.hid hgd
      clear hx hE hb hgd
      generalize zs[m] = x at *
      clear hm'
      by_cases hk : x.k = 2
      · have hk' : (x.k != 2) = false := by simpa using hk
        by_cases hxn : x.n = m
        · have hn' : (x.n != (m : Int)) = false := by simpa using hxn
          by_cases ha : x.a = x0.a
          · have HA := Lib.hid ha
            by_cases hi : x.i = x0.i
            · have HI2 := Lib.hid hi
              by_cases ho : x.o = x0.o
              · have HP : Hid (x.k = 2 ∧ x.n = m ∧ x.a = x0.a ∧ x.i = x0.i ∧ x.o = x0.o) := Lib.hid ⟨hk, hxn, ha, hi, ho⟩
                have HO := Lib.hid ho
                clear hk hxn ha hi ho
                have hbx := heap_alloc_new wr (.cells #[.int .i64 x.k, .int .i64 x.n, .int .i64 x.c, .int .i64 x.a, .int .i64 x.i, .int .i64 x.o] 54)
                have HE5 := Lib.hid (HE.out.alloc (.cells #[.int .i64 x.k, .int .i64 x.n, .int .i64 x.c, .int .i64 x.a, .int .i64 x.i, .int .i64 x.o] 54))
                have HBB5 := Lib.hid (HBB.out.below ((Below.refl _ _).alloc (Nat.le_refl _) (.cells #[.int .i64 x.k, .int .i64 x.n, .int .i64 x.c, .int .i64 x.a, .int .i64 x.i, .int .i64 x.o] 54)))
                have hy5 : y < (wr.alloc (.cells #[.int .i64 x.k, .int .i64 x.n, .int .i64 x.c, .int .i64 x.a, .int .i64 x.i, .int .i64 x.o] 54)).heap.size := Nat.lt_of_lt_of_le hy (by simp)
                go_wp2_with fail
                generalize wr.alloc (.cells #[.int .i64 x.k, .int .i64 x.n, .int .i64 x.c, .int .i64 x.a, .int .i64 x.i, .int .i64 x.o] 54) = W5 at *
                clear z0 z1 z2 z3 z4 z5 a0 a1 a2 a3 a4 a5
                obtain ⟨z0, z1, z2, z3, z4, z5⟩ := HBB5.out 0 _ Hx.out
                simp only [Nat.zero_mul, Nat.add_zero] at z0 z1 z2 z3 z4 z5
                have z4' : W5.cell? ⟨y, q * 6 + 3 + 1, none⟩ = some (.int .i64 x0.i) := z4
                have z5' : W5.cell? ⟨y, q * 6 + 3 + 2, none⟩ = some (.int .i64 x0.o) := z5
                have b0 : W5.cell? ⟨wr.heap.size, 0, none⟩ = some (.int .i64 x.k) := Go.Joins.cell_of_block hbx 0
                have b1 : W5.cell? ⟨wr.heap.size, 1, none⟩ = some (.int .i64 x.n) := Go.Joins.cell_of_block hbx 1
                have b3 : W5.cell? ⟨wr.heap.size, 3, none⟩ = some (.int .i64 x.a) := Go.Joins.cell_of_block hbx 3
                have b4 : W5.cell? ⟨wr.heap.size, 4, none⟩ = some (.int .i64 x.i) := Go.Joins.cell_of_block hbx 4
                have b5 : W5.cell? ⟨wr.heap.size, 5, none⟩ = some (.int .i64 x.o) := Go.Joins.cell_of_block hbx 5
                clear hbx
                have hn0 : 0 < n := by omega
                have hn00 : ¬ n = 0 := by omega
                have hn01 : (0 : Int) < n := by omega
                obtain ⟨r0, r1, r2, g0, g1, g2⟩ := HE5.out.rr
                have ha := HA.out
                have hi := HI2.out
                have ho := HO.out
                go_quiet (fail)
                go_wp2_with fail
                go_roundw
                case rel =>
                  refine ⟨m + 1, by omega, by go_num, fun j hj => ?_, HE5.out.after (belowN (Below.refl _ _) nq), HBB5.out, hy5⟩
                  rcases Nat.lt_or_ge j m with h | h
                  · exact HG.out j h
                  · obtain rfl : j = m := by omega
                    intro z hz
                    obtain rfl : x = z := Option.some.inj (HX.out.symm.trans hz)
                    exact HP.out
                case measure => simp [intOf]; omega
              · have hbad := ho
                replace ho : (x.o == x0.o) = false := by simpa using ho
                clear hk hxn ha hi
                have hbx := heap_alloc_new wr (.cells #[.int .i64 x.k, .int .i64 x.n, .int .i64 x.c, .int .i64 x.a, .int .i64 x.i, .int .i64 x.o] 54)
                have HE5 := Lib.hid (HE.out.alloc (.cells #[.int .i64 x.k, .int .i64 x.n, .int .i64 x.c, .int .i64 x.a, .int .i64 x.i, .int .i64 x.o] 54))
                have HBB5 := Lib.hid (HBB.out.below ((Below.refl _ _).alloc (Nat.le_refl _) (.cells #[.int .i64 x.k, .int .i64 x.n, .int .i64 x.c, .int .i64 x.a, .int .i64 x.i, .int .i64 x.o] 54)))
                have hy5 : y < (wr.alloc (.cells #[.int .i64 x.k, .int .i64 x.n, .int .i64 x.c, .int .i64 x.a, .int .i64 x.i, .int .i64 x.o] 54)).heap.size := Nat.lt_of_lt_of_le hy (by simp)
                go_wp2_with fail
                generalize wr.alloc (.cells #[.int .i64 x.k, .int .i64 x.n, .int .i64 x.c, .int .i64 x.a, .int .i64 x.i, .int .i64 x.o] 54) = W5 at *
                clear z0 z1 z2 z3 z4 z5 a0 a1 a2 a3 a4 a5
                obtain ⟨z0, z1, z2, z3, z4, z5⟩ := HBB5.out 0 _ Hx.out
                simp only [Nat.zero_mul, Nat.add_zero] at z0 z1 z2 z3 z4 z5
                have z4' : W5.cell? ⟨y, q * 6 + 3 + 1, none⟩ = some (.int .i64 x0.i) := z4
                have z5' : W5.cell? ⟨y, q * 6 + 3 + 2, none⟩ = some (.int .i64 x0.o) := z5
                have b0 : W5.cell? ⟨wr.heap.size, 0, none⟩ = some (.int .i64 x.k) := Go.Joins.cell_of_block hbx 0
                have b1 : W5.cell? ⟨wr.heap.size, 1, none⟩ = some (.int .i64 x.n) := Go.Joins.cell_of_block hbx 1
                have b3 : W5.cell? ⟨wr.heap.size, 3, none⟩ = some (.int .i64 x.a) := Go.Joins.cell_of_block hbx 3
                have b4 : W5.cell? ⟨wr.heap.size, 4, none⟩ = some (.int .i64 x.i) := Go.Joins.cell_of_block hbx 4
                have b5 : W5.cell? ⟨wr.heap.size, 5, none⟩ = some (.int .i64 x.o) := Go.Joins.cell_of_block hbx 5
                clear hbx
                have hn0 : 0 < n := by omega
                have hn00 : ¬ n = 0 := by omega
                have hn01 : (0 : Int) < n := by omega
                obtain ⟨r0, r1, r2, g0, g1, g2⟩ := HE5.out.rr
                have ha := HA.out
                have hi := HI2.out
                go_quiet (fail)
                go_wp2_with fail
                try simp only [Exit.inBlock, Exit.then]
                refine bodyPost_ret (v := .tuple #[.agg #[.int .i64 0, .int .i64 0, .int .i64 0], .int .i64 144]) (by rw [results_cell_tmp rfl]; go_simp) rfl ?_
                exact ⟨.inr ⟨⟨m, hlt, fun hp => by obtain ⟨p1, p2, p3, p4, p5⟩ := hp x HX.out; first | exact hbad p1 | exact hbad p2 | exact hbad p3 | exact hbad p4 | exact hbad p5⟩, rfl⟩, (HE5.out.after (belowN (Below.refl _ _) nq)).stored _ _ _⟩
            · have hbad := hi
              replace hi : (x.i == x0.i) = false := by simpa using hi
              clear hk hxn ha
              have hbx := heap_alloc_new wr (.cells #[.int .i64 x.k, .int .i64 x.n, .int .i64 x.c, .int .i64 x.a, .int .i64 x.i, .int .i64 x.o] 54)
              have HE5 := Lib.hid (HE.out.alloc (.cells #[.int .i64 x.k, .int .i64 x.n, .int .i64 x.c, .int .i64 x.a, .int .i64 x.i, .int .i64 x.o] 54))
              have HBB5 := Lib.hid (HBB.out.below ((Below.refl _ _).alloc (Nat.le_refl _) (.cells #[.int .i64 x.k, .int .i64 x.n, .int .i64 x.c, .int .i64 x.a, .int .i64 x.i, .int .i64 x.o] 54)))
              have hy5 : y < (wr.alloc (.cells #[.int .i64 x.k, .int .i64 x.n, .int .i64 x.c, .int .i64 x.a, .int .i64 x.i, .int .i64 x.o] 54)).heap.size := Nat.lt_of_lt_of_le hy (by simp)
              go_wp2_with fail
              generalize wr.alloc (.cells #[.int .i64 x.k, .int .i64 x.n, .int .i64 x.c, .int .i64 x.a, .int .i64 x.i, .int .i64 x.o] 54) = W5 at *
              clear z0 z1 z2 z3 z4 z5 a0 a1 a2 a3 a4 a5
              obtain ⟨z0, z1, z2, z3, z4, z5⟩ := HBB5.out 0 _ Hx.out
              simp only [Nat.zero_mul, Nat.add_zero] at z0 z1 z2 z3 z4 z5
              have z4' : W5.cell? ⟨y, q * 6 + 3 + 1, none⟩ = some (.int .i64 x0.i) := z4
              have z5' : W5.cell? ⟨y, q * 6 + 3 + 2, none⟩ = some (.int .i64 x0.o) := z5
              have b0 : W5.cell? ⟨wr.heap.size, 0, none⟩ = some (.int .i64 x.k) := Go.Joins.cell_of_block hbx 0
              have b1 : W5.cell? ⟨wr.heap.size, 1, none⟩ = some (.int .i64 x.n) := Go.Joins.cell_of_block hbx 1
              have b3 : W5.cell? ⟨wr.heap.size, 3, none⟩ = some (.int .i64 x.a) := Go.Joins.cell_of_block hbx 3
              have b4 : W5.cell? ⟨wr.heap.size, 4, none⟩ = some (.int .i64 x.i) := Go.Joins.cell_of_block hbx 4
              have b5 : W5.cell? ⟨wr.heap.size, 5, none⟩ = some (.int .i64 x.o) := Go.Joins.cell_of_block hbx 5
              clear hbx
              have hn0 : 0 < n := by omega
              have hn00 : ¬ n = 0 := by omega
              have hn01 : (0 : Int) < n := by omega
              obtain ⟨r0, r1, r2, g0, g1, g2⟩ := HE5.out.rr
              have ha := HA.out
              go_quiet (fail)
              go_wp2_with fail
              try simp only [Exit.inBlock, Exit.then]
              refine bodyPost_ret (v := .tuple #[.agg #[.int .i64 0, .int .i64 0, .int .i64 0], .int .i64 144]) (by rw [results_cell_tmp rfl]; go_simp) rfl ?_
              exact ⟨.inr ⟨⟨m, hlt, fun hp => by obtain ⟨p1, p2, p3, p4, p5⟩ := hp x HX.out; first | exact hbad p1 | exact hbad p2 | exact hbad p3 | exact hbad p4 | exact hbad p5⟩, rfl⟩, (HE5.out.after (belowN (Below.refl _ _) nq)).stored _ _ _⟩
          · have hbad := ha
            replace ha : (x.a == x0.a) = false := by simpa using ha
            clear hk hxn
            have hbx := heap_alloc_new wr (.cells #[.int .i64 x.k, .int .i64 x.n, .int .i64 x.c, .int .i64 x.a, .int .i64 x.i, .int .i64 x.o] 54)
            have HE5 := Lib.hid (HE.out.alloc (.cells #[.int .i64 x.k, .int .i64 x.n, .int .i64 x.c, .int .i64 x.a, .int .i64 x.i, .int .i64 x.o] 54))
            have HBB5 := Lib.hid (HBB.out.below ((Below.refl _ _).alloc (Nat.le_refl _) (.cells #[.int .i64 x.k, .int .i64 x.n, .int .i64 x.c, .int .i64 x.a, .int .i64 x.i, .int .i64 x.o] 54)))
            have hy5 : y < (wr.alloc (.cells #[.int .i64 x.k, .int .i64 x.n, .int .i64 x.c, .int .i64 x.a, .int .i64 x.i, .int .i64 x.o] 54)).heap.size := Nat.lt_of_lt_of_le hy (by simp)
            go_wp2_with fail
            generalize wr.alloc (.cells #[.int .i64 x.k, .int .i64 x.n, .int .i64 x.c, .int .i64 x.a, .int .i64 x.i, .int .i64 x.o] 54) = W5 at *
            clear z0 z1 z2 z3 z4 z5 a0 a1 a2 a3 a4 a5
            obtain ⟨z0, z1, z2, z3, z4, z5⟩ := HBB5.out 0 _ Hx.out
            simp only [Nat.zero_mul, Nat.add_zero] at z0 z1 z2 z3 z4 z5
            have z4' : W5.cell? ⟨y, q * 6 + 3 + 1, none⟩ = some (.int .i64 x0.i) := z4
            have z5' : W5.cell? ⟨y, q * 6 + 3 + 2, none⟩ = some (.int .i64 x0.o) := z5
            have b0 : W5.cell? ⟨wr.heap.size, 0, none⟩ = some (.int .i64 x.k) := Go.Joins.cell_of_block hbx 0
            have b1 : W5.cell? ⟨wr.heap.size, 1, none⟩ = some (.int .i64 x.n) := Go.Joins.cell_of_block hbx 1
            have b3 : W5.cell? ⟨wr.heap.size, 3, none⟩ = some (.int .i64 x.a) := Go.Joins.cell_of_block hbx 3
            have b4 : W5.cell? ⟨wr.heap.size, 4, none⟩ = some (.int .i64 x.i) := Go.Joins.cell_of_block hbx 4
            have b5 : W5.cell? ⟨wr.heap.size, 5, none⟩ = some (.int .i64 x.o) := Go.Joins.cell_of_block hbx 5
            clear hbx
            have hn0 : 0 < n := by omega
            have hn00 : ¬ n = 0 := by omega
            have hn01 : (0 : Int) < n := by omega
            obtain ⟨r0, r1, r2, g0, g1, g2⟩ := HE5.out.rr
            go_quiet (fail)
            go_wp2_with fail
            try simp only [Exit.inBlock, Exit.then]
            refine bodyPost_ret (v := .tuple #[.agg #[.int .i64 0, .int .i64 0, .int .i64 0], .int .i64 144]) (by rw [results_cell_tmp rfl]; go_simp) rfl ?_
            exact ⟨.inr ⟨⟨m, hlt, fun hp => by obtain ⟨p1, p2, p3, p4, p5⟩ := hp x HX.out; first | exact hbad p1 | exact hbad p2 | exact hbad p3 | exact hbad p4 | exact hbad p5⟩, rfl⟩, (HE5.out.after (belowN (Below.refl _ _) nq)).stored _ _ _⟩
        · have hbad := hxn
          have hn' : (x.n != (m : Int)) = true := by simpa using hxn
          clear hk
          have hbx := heap_alloc_new wr (.cells #[.int .i64 x.k, .int .i64 x.n, .int .i64 x.c, .int .i64 x.a, .int .i64 x.i, .int .i64 x.o] 54)
          have HE5 := Lib.hid (HE.out.alloc (.cells #[.int .i64 x.k, .int .i64 x.n, .int .i64 x.c, .int .i64 x.a, .int .i64 x.i, .int .i64 x.o] 54))
          have HBB5 := Lib.hid (HBB.out.below ((Below.refl _ _).alloc (Nat.le_refl _) (.cells #[.int .i64 x.k, .int .i64 x.n, .int .i64 x.c, .int .i64 x.a, .int .i64 x.i, .int .i64 x.o] 54)))
          have hy5 : y < (wr.alloc (.cells #[.int .i64 x.k, .int .i64 x.n, .int .i64 x.c, .int .i64 x.a, .int .i64 x.i, .int .i64 x.o] 54)).heap.size := Nat.lt_of_lt_of_le hy (by simp)
          go_wp2_with fail
          generalize wr.alloc (.cells #[.int .i64 x.k, .int .i64 x.n, .int .i64 x.c, .int .i64 x.a, .int .i64 x.i, .int .i64 x.o] 54) = W5 at *
          clear z0 z1 z2 z3 z4 z5 a0 a1 a2 a3 a4 a5
          obtain ⟨z0, z1, z2, z3, z4, z5⟩ := HBB5.out 0 _ Hx.out
          simp only [Nat.zero_mul, Nat.add_zero] at z0 z1 z2 z3 z4 z5
          have z4' : W5.cell? ⟨y, q * 6 + 3 + 1, none⟩ = some (.int .i64 x0.i) := z4
          have z5' : W5.cell? ⟨y, q * 6 + 3 + 2, none⟩ = some (.int .i64 x0.o) := z5
          have b0 : W5.cell? ⟨wr.heap.size, 0, none⟩ = some (.int .i64 x.k) := Go.Joins.cell_of_block hbx 0
          have b1 : W5.cell? ⟨wr.heap.size, 1, none⟩ = some (.int .i64 x.n) := Go.Joins.cell_of_block hbx 1
          have b3 : W5.cell? ⟨wr.heap.size, 3, none⟩ = some (.int .i64 x.a) := Go.Joins.cell_of_block hbx 3
          have b4 : W5.cell? ⟨wr.heap.size, 4, none⟩ = some (.int .i64 x.i) := Go.Joins.cell_of_block hbx 4
          have b5 : W5.cell? ⟨wr.heap.size, 5, none⟩ = some (.int .i64 x.o) := Go.Joins.cell_of_block hbx 5
          clear hbx
          have hn0 : 0 < n := by omega
          have hn00 : ¬ n = 0 := by omega
          have hn01 : (0 : Int) < n := by omega
          obtain ⟨r0, r1, r2, g0, g1, g2⟩ := HE5.out.rr
          go_quiet (fail)
          go_wp2_with fail
          try simp only [Exit.inBlock, Exit.then]
          refine bodyPost_ret (v := .tuple #[.agg #[.int .i64 0, .int .i64 0, .int .i64 0], .int .i64 144]) (by rw [results_cell_tmp rfl]; go_simp) rfl ?_
          exact ⟨.inr ⟨⟨m, hlt, fun hp => by obtain ⟨p1, p2, p3, p4, p5⟩ := hp x HX.out; first | exact hbad p1 | exact hbad p2 | exact hbad p3 | exact hbad p4 | exact hbad p5⟩, rfl⟩, (HE5.out.after (belowN (Below.refl _ _) nq)).stored _ _ _⟩
      · have hbad := hk
        have hk' : (x.k != 2) = true := by simpa using hk
        have hbx := heap_alloc_new wr (.cells #[.int .i64 x.k, .int .i64 x.n, .int .i64 x.c, .int .i64 x.a, .int .i64 x.i, .int .i64 x.o] 54)
        have HE5 := Lib.hid (HE.out.alloc (.cells #[.int .i64 x.k, .int .i64 x.n, .int .i64 x.c, .int .i64 x.a, .int .i64 x.i, .int .i64 x.o] 54))
        have HBB5 := Lib.hid (HBB.out.below ((Below.refl _ _).alloc (Nat.le_refl _) (.cells #[.int .i64 x.k, .int .i64 x.n, .int .i64 x.c, .int .i64 x.a, .int .i64 x.i, .int .i64 x.o] 54)))
        have hy5 : y < (wr.alloc (.cells #[.int .i64 x.k, .int .i64 x.n, .int .i64 x.c, .int .i64 x.a, .int .i64 x.i, .int .i64 x.o] 54)).heap.size := Nat.lt_of_lt_of_le hy (by simp)
        go_wp2_with fail
        generalize wr.alloc (.cells #[.int .i64 x.k, .int .i64 x.n, .int .i64 x.c, .int .i64 x.a, .int .i64 x.i, .int .i64 x.o] 54) = W5 at *
        clear z0 z1 z2 z3 z4 z5 a0 a1 a2 a3 a4 a5
        obtain ⟨z0, z1, z2, z3, z4, z5⟩ := HBB5.out 0 _ Hx.out
        simp only [Nat.zero_mul, Nat.add_zero] at z0 z1 z2 z3 z4 z5
        have z4' : W5.cell? ⟨y, q * 6 + 3 + 1, none⟩ = some (.int .i64 x0.i) := z4
        have z5' : W5.cell? ⟨y, q * 6 + 3 + 2, none⟩ = some (.int .i64 x0.o) := z5
        have b0 : W5.cell? ⟨wr.heap.size, 0, none⟩ = some (.int .i64 x.k) := Go.Joins.cell_of_block hbx 0
        have b1 : W5.cell? ⟨wr.heap.size, 1, none⟩ = some (.int .i64 x.n) := Go.Joins.cell_of_block hbx 1
        have b3 : W5.cell? ⟨wr.heap.size, 3, none⟩ = some (.int .i64 x.a) := Go.Joins.cell_of_block hbx 3
        have b4 : W5.cell? ⟨wr.heap.size, 4, none⟩ = some (.int .i64 x.i) := Go.Joins.cell_of_block hbx 4
        have b5 : W5.cell? ⟨wr.heap.size, 5, none⟩ = some (.int .i64 x.o) := Go.Joins.cell_of_block hbx 5
        clear hbx
        have hn0 : 0 < n := by omega
        have hn00 : ¬ n = 0 := by omega
        have hn01 : (0 : Int) < n := by omega
        obtain ⟨r0, r1, r2, g0, g1, g2⟩ := HE5.out.rr
        go_quiet (fail)
        go_wp2_with fail
        try simp only [Exit.inBlock, Exit.then]
        refine bodyPost_ret (v := .tuple #[.agg #[.int .i64 0, .int .i64 0, .int .i64 0], .int .i64 144]) (by rw [results_cell_tmp rfl]; go_simp) rfl ?_
        exact ⟨.inr ⟨⟨m, hlt, fun hp => by obtain ⟨p1, p2, p3, p4, p5⟩ := hp x HX.out; first | exact hbad p1 | exact hbad p2 | exact hbad p3 | exact hbad p4 | exact hbad p5⟩, rfl⟩, (HE5.out.after (belowN (Below.refl _ _) nq)).stored _ _ _⟩
    · obtain rfl : m = n := by omega
      obtain ⟨r0, r1, r2, f0, f1, f2⟩ := hE.rr
      have HE := Lib.hid hE
      have HG := Lib.hid hgd
      simp only [Nat.zero_mul, Nat.add_zero] at z0 z1 z2 z3 z4 z5
      have hn0 : 0 < m := by omega
      have hn00 : ¬ m = 0 := by omega
      have hn01 : (0 : Int) < m := by omega
      clear hE hgd hb
      go_wp2_with fail
      try simp only [Exit.inBlock, Exit.then]
      refine bodyPost_ret (v := .tuple #[.agg #[.int .i64 x0.a, .int .i64 x0.i, .int .i64 x0.o], .int .i64 0]) (by rw [results_cell_tmp rfl]; go_simp) rfl ?_
      exact ⟨.inl ⟨HG.out, rfl⟩, HE.out.stored _ _ _⟩
end
end Go.Proofs.YtejhphnlickjlaaDoor.bl
