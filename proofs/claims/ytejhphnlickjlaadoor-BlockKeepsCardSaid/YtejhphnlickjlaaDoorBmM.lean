/-
  The contract of Context of package block. Condition: a store stands in memory.
-/
import Derived.Test.YtejhphnlickjlaaDoorBmC
set_option linter.unusedVariables false
set_option linter.unusedSimpArgs false
namespace Go.Proofs.YtejhphnlickjlaaDoor.bl
open Go.RowKit
open M ty
set_option linter.unusedVariables false
/-- is byte number j a piece of x0's context, in its place? -/
def Slice0 (x0 : By) (zs : List By) (j : Nat) : Prop := ∀ x, zs[j]? = some x → x.k = 3 ∧ x.n = j ∧ x.c = x0.c
def SeeC (w : World) (g : Nat) (k i o : Int) (p y q cap : Nat) (zs : List By) : Prop := ∀ W, Env1 w W k i o → Calls Tryd.prog 59 #[.pointer (some ⟨g, 0, none⟩), .agg #[.int .i64 k, .int .i64 i, .int .i64 o], .int .i64 64] W fun e w' =>
  e = .returned (.tuple #[.pointer (some ⟨p, 0, none⟩), .slice (some ⟨y, q * 6, none⟩) 64 cap, .int .i64 0]) ∧ Env1 w w' k i o ∧ BytesAt w' y (q * 6) zs ∧ y < w'.heap.size
def HasC (w : World) (k i o : Int) (y q cap : Nat) (zs : List By) (b : Bool) : Prop := ∀ W, Env1 w W k i o → BytesAt W y (q * 6) zs → y < W.heap.size → Calls Tryd.prog 60 #[.slice (some ⟨y, q * 6, none⟩) 64 cap, .func (.func 64) #[] #[]] W fun e w' =>
  e = .returned (.bool b) ∧ Env1 w w' k i o ∧ BytesAt w' y (q * 6) zs ∧ y < w'.heap.size
section
variable {w W : World} {B g N : Nat} {st : St} {L : Lay} {k i o E : Int} {p y q cap : Nat} {zs : List By} {x0 : By}
set_option maxRecDepth 20000 in
set_option maxHeartbeats 800000 in
theorem ctx_err (HR : Hid (AnyE w g k i o 64 E)) (hE : (E != 0) = true) : Calls Tryd.prog 23 #[.pointer (some ⟨g, 0, none⟩), .agg #[.int .i64 k, .int .i64 i, .int .i64 o]] w fun e w' => e = .returned (.tuple #[.int .i64 0, .int .i64 E]) ∧ Below w.heap.size w w' := by
  go_enter Tryd.func23, Tryd.ntmps23
  go_wp2_with (go_at_call 59; refine (HR.out _ (Env1.new w k i o)).mono ?_; rintro e w1 ⟨⟨P, S, rfl⟩, h1⟩; have H1 := Lib.hid h1; clear h1)
  go_ret2
  exact ⟨rfl, H1.out.below⟩
set_option maxRecDepth 20000 in
set_option maxHeartbeats 800000 in
theorem ctx_skew (HR : Hid (SeeC w g k i o p y q cap zs)) (hr : ¬ Int.tmod o 4 = 0) : Calls Tryd.prog 23 #[.pointer (some ⟨g, 0, none⟩), .agg #[.int .i64 k, .int .i64 i, .int .i64 o]] w fun e w' => e = .returned (.tuple #[.int .i64 0, .int .i64 142]) ∧ Below w.heap.size w w' := by
  go_enter Tryd.func23, Tryd.ntmps23
  go_wp2_with (go_at_call 59; refine (HR.out _ (Env1.new w k i o)).mono ?_; rintro e w1 ⟨rfl, h1, hb, hy⟩; obtain ⟨v0, v1, v2⟩ := h1.vv; have H1 := Lib.hid h1; clear h1 hb hy)
  go_ret2
  exact ⟨rfl, H1.out.below⟩
set_option maxRecDepth 20000 in
set_option maxHeartbeats 800000 in
theorem ctx_hole (HR : Hid (SeeC w g k i o p y q cap zs)) (hr : Int.tmod o 4 = 0) (HC : Hid (HasC w k i o y q cap zs true)) : Calls Tryd.prog 23 #[.pointer (some ⟨g, 0, none⟩), .agg #[.int .i64 k, .int .i64 i, .int .i64 o]] w fun e w' => e = .returned (.tuple #[.int .i64 0, .int .i64 143]) ∧ Below w.heap.size w w' := by
  go_enter Tryd.func23, Tryd.ntmps23
  go_wp2_with (first
    | (go_at_call 59; refine (HR.out _ (Env1.new w k i o)).mono ?_; rintro e w1 ⟨rfl, h1, hb, hy⟩; obtain ⟨v0, v1, v2⟩ := h1.vv; have H1 := Lib.hid h1; have HB := Lib.hid hb; have HY := Lib.hid hy; clear h1 hb hy)
    | (go_at_call 60; refine (HC.out _ H1.out HB.out HY.out).mono ?_; rintro e w3 ⟨rfl, h3, hb, hy⟩; have H3 := Lib.hid h3; clear h3 hb hy))
  go_ret2
  exact ⟨rfl, H3.out.below⟩
set_option maxRecDepth 20000 in
set_option maxHeartbeats 6400000 in
theorem ctx_loop (hq : q ≤ 131072) (HR : Hid (SeeC w g k i o p y q cap zs)) (hr : Int.tmod o 4 = 0) (HC : Hid (HasC w k i o y q cap zs false)) (Hl : Hid (zs.length = 64)) (Hx : Hid (zs[0]? = some x0)) :
    Calls Tryd.prog 23 #[.pointer (some ⟨g, 0, none⟩), .agg #[.int .i64 k, .int .i64 i, .int .i64 o]] w fun e w' =>
      ((∀ j, j < 64 → Slice0 x0 zs j) ∧ e = .returned (.tuple #[.int .i64 x0.c, .int .i64 0]) ∨ (∃ j, j < 64 ∧ ¬ Slice0 x0 zs j) ∧ e = .returned (.tuple #[.int .i64 0, .int .i64 144])) ∧ Below w.heap.size w w' := by
  go_enter Tryd.func23, Tryd.ntmps23
  go_wp2_with (first
    | (go_at_call 59; refine (HR.out _ (Env1.new w k i o)).mono ?_; rintro e w1 ⟨rfl, h1, hb, hy⟩; obtain ⟨v0, v1, v2⟩ := h1.vv; have H1 := Lib.hid h1; have HB := Lib.hid hb; have HY := Lib.hid hy; clear h1 hb hy)
    | (go_at_call 60; refine (HC.out _ H1.out HB.out HY.out).mono ?_; rintro e w3 ⟨rfl, h3, hb, hy⟩; have H3 := Lib.hid h3; have HB3 := Lib.hid hb; have HY3 := Lib.hid hy; clear h3 hb hy))
  go_loopw [31] (fun t wr => ∃ m : Nat, m ≤ 64 ∧ t = .int .i64 m ∧ (∀ j, j < m → Slice0 x0 zs j) ∧ Env1 w wr k i o ∧ BytesAt wr y (q * 6) zs ∧ y < wr.heap.size) (fun t _ => 64 - (intOf t).toNat)
  case atStart => exact ⟨0, by omega, rfl, fun j hj => by omega, H3.out, HB3.out, HY3.out⟩
  case round =>
    obtain ⟨m, hm, rfl, hgd, hE, hb, hy⟩ := hrel
    clear v0 v1 v2
    obtain ⟨-, -, z2, -, -, -⟩ := hb 0 _ Hx.out
    simp only [Nat.zero_mul, Nat.add_zero] at z2
    by_cases hlt : m < 64
    · have hm' : m < zs.length := by rw [Hl.out]; exact hlt
      have hx : zs[m]? = some zs[m] := List.getElem?_eq_getElem hm'
      obtain ⟨a0, a1, a2, a3, a4, a5⟩ := hb m _ hx
      have HX := Lib.hid hx
      have HE := Lib.hid hE
      have HBB := Lib.hid hb
      have HG := Lib.hid hgd
      clear hx hE hb hgd
      generalize zs[m] = x at *
      clear hm'
      by_cases hk : x.k = 3
      · have hk' : (x.k != 3) = false := by simpa using hk
        by_cases hxn : x.n = m
        · have hn' : (x.n != (m : Int)) = false := by simpa using hxn
          by_cases hc : x.c = x0.c
          · have HP : Hid (x.k = 3 ∧ x.n = m ∧ x.c = x0.c) := Lib.hid ⟨hk, hxn, hc⟩
            clear hk hxn hc
            have hbx := heap_alloc_new wr (.cells #[.int .i64 x.k, .int .i64 x.n, .int .i64 x.c, .int .i64 x.a, .int .i64 x.i, .int .i64 x.o] 54)
            have HE5 := Lib.hid (HE.out.alloc (.cells #[.int .i64 x.k, .int .i64 x.n, .int .i64 x.c, .int .i64 x.a, .int .i64 x.i, .int .i64 x.o] 54))
            have HBB5 := Lib.hid (HBB.out.below ((Below.refl _ _).alloc (Nat.le_refl _) (.cells #[.int .i64 x.k, .int .i64 x.n, .int .i64 x.c, .int .i64 x.a, .int .i64 x.i, .int .i64 x.o] 54)))
            have hy5 : y < (wr.alloc (.cells #[.int .i64 x.k, .int .i64 x.n, .int .i64 x.c, .int .i64 x.a, .int .i64 x.i, .int .i64 x.o] 54)).heap.size := Nat.lt_of_lt_of_le hy (by simp)
            go_wp2_with fail
            generalize wr.alloc (.cells #[.int .i64 x.k, .int .i64 x.n, .int .i64 x.c, .int .i64 x.a, .int .i64 x.i, .int .i64 x.o] 54) = W5 at *
            clear z2 a0 a1 a2 a3 a4 a5
            obtain ⟨-, -, z2, -, -, -⟩ := HBB5.out 0 _ Hx.out
            simp only [Nat.zero_mul, Nat.add_zero] at z2
            have b0 : W5.cell? ⟨wr.heap.size, 0, none⟩ = some (.int .i64 x.k) := Go.Joins.cell_of_block hbx 0
            have b1 : W5.cell? ⟨wr.heap.size, 1, none⟩ = some (.int .i64 x.n) := Go.Joins.cell_of_block hbx 1
            have b2 : W5.cell? ⟨wr.heap.size, 2, none⟩ = some (.int .i64 x.c) := Go.Joins.cell_of_block hbx 2
            clear hbx
            have hc : (x.c != x0.c) = false := by simpa using HP.out.2.2
            go_quiet (fail)
            go_wp2_with fail
            go_roundw
            case rel =>
              refine ⟨m + 1, by omega, by go_num, fun j hj => ?_, HE5.out.after (belowN (Below.refl _ _) nq), HBB5.out, hy5⟩
              rcases Nat.lt_or_ge j m with h | h
              · exact HG.out j h
              · obtain rfl : j = m := by omega
                intro z hz
                obtain rfl : x = z := Option.some.inj (HX.out.symm.trans hz)
                exact HP.out
            case measure => simp [intOf]; omega
          · have hbad := hc
            replace hc : (x.c != x0.c) = true := by simpa using hc
            clear hk hxn
            have hbx := heap_alloc_new wr (.cells #[.int .i64 x.k, .int .i64 x.n, .int .i64 x.c, .int .i64 x.a, .int .i64 x.i, .int .i64 x.o] 54)
            have HE5 := Lib.hid (HE.out.alloc (.cells #[.int .i64 x.k, .int .i64 x.n, .int .i64 x.c, .int .i64 x.a, .int .i64 x.i, .int .i64 x.o] 54))
            have HBB5 := Lib.hid (HBB.out.below ((Below.refl _ _).alloc (Nat.le_refl _) (.cells #[.int .i64 x.k, .int .i64 x.n, .int .i64 x.c, .int .i64 x.a, .int .i64 x.i, .int .i64 x.o] 54)))
            have hy5 : y < (wr.alloc (.cells #[.int .i64 x.k, .int .i64 x.n, .int .i64 x.c, .int .i64 x.a, .int .i64 x.i, .int .i64 x.o] 54)).heap.size := Nat.lt_of_lt_of_le hy (by simp)
            go_wp2_with fail
            generalize wr.alloc (.cells #[.int .i64 x.k, .int .i64 x.n, .int .i64 x.c, .int .i64 x.a, .int .i64 x.i, .int .i64 x.o] 54) = W5 at *
            clear z2 a0 a1 a2 a3 a4 a5
            obtain ⟨-, -, z2, -, -, -⟩ := HBB5.out 0 _ Hx.out
            simp only [Nat.zero_mul, Nat.add_zero] at z2
            have b0 : W5.cell? ⟨wr.heap.size, 0, none⟩ = some (.int .i64 x.k) := Go.Joins.cell_of_block hbx 0
            have b1 : W5.cell? ⟨wr.heap.size, 1, none⟩ = some (.int .i64 x.n) := Go.Joins.cell_of_block hbx 1
            have b2 : W5.cell? ⟨wr.heap.size, 2, none⟩ = some (.int .i64 x.c) := Go.Joins.cell_of_block hbx 2
            clear hbx
            go_quiet (fail)
            go_wp2_with fail
            go_ret2
            exact ⟨.inr ⟨⟨m, hlt, fun hp => by obtain ⟨p1, p2, p3⟩ := hp x HX.out; first | exact hbad p1 | exact hbad p2 | exact hbad p3⟩, rfl⟩, (HE5.out.after (belowN (Below.refl _ _) nq)).below⟩
        · have hbad := hxn
          have hn' : (x.n != (m : Int)) = true := by simpa using hxn
          clear hk
          have hbx := heap_alloc_new wr (.cells #[.int .i64 x.k, .int .i64 x.n, .int .i64 x.c, .int .i64 x.a, .int .i64 x.i, .int .i64 x.o] 54)
          have HE5 := Lib.hid (HE.out.alloc (.cells #[.int .i64 x.k, .int .i64 x.n, .int .i64 x.c, .int .i64 x.a, .int .i64 x.i, .int .i64 x.o] 54))
          have HBB5 := Lib.hid (HBB.out.below ((Below.refl _ _).alloc (Nat.le_refl _) (.cells #[.int .i64 x.k, .int .i64 x.n, .int .i64 x.c, .int .i64 x.a, .int .i64 x.i, .int .i64 x.o] 54)))
          have hy5 : y < (wr.alloc (.cells #[.int .i64 x.k, .int .i64 x.n, .int .i64 x.c, .int .i64 x.a, .int .i64 x.i, .int .i64 x.o] 54)).heap.size := Nat.lt_of_lt_of_le hy (by simp)
          go_wp2_with fail
          generalize wr.alloc (.cells #[.int .i64 x.k, .int .i64 x.n, .int .i64 x.c, .int .i64 x.a, .int .i64 x.i, .int .i64 x.o] 54) = W5 at *
          clear z2 a0 a1 a2 a3 a4 a5
          obtain ⟨-, -, z2, -, -, -⟩ := HBB5.out 0 _ Hx.out
          simp only [Nat.zero_mul, Nat.add_zero] at z2
          have b0 : W5.cell? ⟨wr.heap.size, 0, none⟩ = some (.int .i64 x.k) := Go.Joins.cell_of_block hbx 0
          have b1 : W5.cell? ⟨wr.heap.size, 1, none⟩ = some (.int .i64 x.n) := Go.Joins.cell_of_block hbx 1
          have b2 : W5.cell? ⟨wr.heap.size, 2, none⟩ = some (.int .i64 x.c) := Go.Joins.cell_of_block hbx 2
          clear hbx
          go_quiet (fail)
          go_wp2_with fail
          go_ret2
          exact ⟨.inr ⟨⟨m, hlt, fun hp => by obtain ⟨p1, p2, p3⟩ := hp x HX.out; first | exact hbad p1 | exact hbad p2 | exact hbad p3⟩, rfl⟩, (HE5.out.after (belowN (Below.refl _ _) nq)).below⟩
      · have hbad := hk
        have hk' : (x.k != 3) = true := by simpa using hk
        have hbx := heap_alloc_new wr (.cells #[.int .i64 x.k, .int .i64 x.n, .int .i64 x.c, .int .i64 x.a, .int .i64 x.i, .int .i64 x.o] 54)
        have HE5 := Lib.hid (HE.out.alloc (.cells #[.int .i64 x.k, .int .i64 x.n, .int .i64 x.c, .int .i64 x.a, .int .i64 x.i, .int .i64 x.o] 54))
        have HBB5 := Lib.hid (HBB.out.below ((Below.refl _ _).alloc (Nat.le_refl _) (.cells #[.int .i64 x.k, .int .i64 x.n, .int .i64 x.c, .int .i64 x.a, .int .i64 x.i, .int .i64 x.o] 54)))
        have hy5 : y < (wr.alloc (.cells #[.int .i64 x.k, .int .i64 x.n, .int .i64 x.c, .int .i64 x.a, .int .i64 x.i, .int .i64 x.o] 54)).heap.size := Nat.lt_of_lt_of_le hy (by simp)
        go_wp2_with fail
        generalize wr.alloc (.cells #[.int .i64 x.k, .int .i64 x.n, .int .i64 x.c, .int .i64 x.a, .int .i64 x.i, .int .i64 x.o] 54) = W5 at *
        clear z2 a0 a1 a2 a3 a4 a5
        obtain ⟨-, -, z2, -, -, -⟩ := HBB5.out 0 _ Hx.out
        simp only [Nat.zero_mul, Nat.add_zero] at z2
        have b0 : W5.cell? ⟨wr.heap.size, 0, none⟩ = some (.int .i64 x.k) := Go.Joins.cell_of_block hbx 0
        have b1 : W5.cell? ⟨wr.heap.size, 1, none⟩ = some (.int .i64 x.n) := Go.Joins.cell_of_block hbx 1
        have b2 : W5.cell? ⟨wr.heap.size, 2, none⟩ = some (.int .i64 x.c) := Go.Joins.cell_of_block hbx 2
        clear hbx
        go_quiet (fail)
        go_wp2_with fail
        go_ret2
        exact ⟨.inr ⟨⟨m, hlt, fun hp => by obtain ⟨p1, p2, p3⟩ := hp x HX.out; first | exact hbad p1 | exact hbad p2 | exact hbad p3⟩, rfl⟩, (HE5.out.after (belowN (Below.refl _ _) nq)).below⟩
    · obtain rfl : m = 64 := by omega
      have HE := Lib.hid hE
      have HG := Lib.hid hgd
      clear hE hgd hb
      go_wp2_with fail
      go_ret2
      exact ⟨.inl ⟨HG.out, rfl⟩, HE.out.below⟩
open Classical in
/-- what Context hands back: the error, the context -/
noncomputable def ctxR (st : St) (k i o : Int) : Int × Int :=
  if reachE st k i o 64 ≠ 0 then (reachE st k i o 64, 0) else if o.tmod 4 ≠ 0 then (142, 0) else if (bytesAt st i o 64).any isUn = true then (143, 0)
  else if (∀ j, j < 64 → Slice0 ((bytesAt st i o 64)[0]?.getD By.zero) (bytesAt st i o 64) j) then (0, ((bytesAt st i o 64)[0]?.getD By.zero).c) else (144, 0)
theorem ctx_any (h : Sto w B g N st L) (k i o : Int) (i0 : -9223372036854775808 ≤ i) (i1 : i ≤ 9223372036854775807) :
    Calls Tryd.prog 23 #[.pointer (some ⟨g, 0, none⟩), vT k i o] w fun e w' => e = .returned (.tuple #[.int .i64 (ctxR st k i o).2, .int .i64 (ctxR st k i o).1]) ∧ Below w.heap.size w w' := by
  unfold ctxR vT
  by_cases hE : reachE st k i o 64 = 0
  · rw [if_neg (fun h => h hE)]
    have hzl := bytesAt_length hE (by omega)
    obtain ⟨rfl, h1, h2, o0, b, hx, hd, h3, h5⟩ := reach_zero hE
    obtain ⟨j, rfl⟩ : ∃ j : Nat, i = (j : Int) + 1 := ⟨(i - 1).toNat, by omega⟩
    have e1 : ((j : Int) + 1 - 1).toNat = j := by omega
    rw [e1] at hx
    have hm := (h.body _ b hx).2.2.2.2
    have hz : bytesAt st ((j : Int) + 1) o 64 = (b.bs.drop o.toNat).take 64 := by unfold bytesAt; rw [e1, hx]; rfl
    have HS : SeeC w g 2 ((j : Int) + 1) o (L.pb j) (L.py j) o.toNat (b.bs.length - o.toNat) (bytesAt st ((j : Int) + 1) o 64) := fun W hW => by
      have hr := reach_any (h.below hW.below) 2 ((j : Int) + 1) o 64 i0 i1 (by omega)
      rw [reachR_ok hx hd o0 (by omega) (by omega), sliceAt_pos (by omega) o0 (by omega)] at hr
      exact hr.mono fun e w' ⟨p, q⟩ => ⟨p, hW.after q, by rw [hz]; exact ((h.below hW.below).below q).bytesAt hx _ _, (Array.getElem?_eq_some_iff.1 (((h.below hW.below).below q).body j b hx).2.2.2.1).1⟩
    generalize bytesAt st ((j : Int) + 1) o 64 = zs at *
    by_cases hr : o.tmod 4 = 0
    · rw [if_neg (fun h => h hr)]
      have HC : HasC w 2 ((j : Int) + 1) o (L.py j) o.toNat (b.bs.length - o.toNat) zs (zs.any isUn) := fun W hW hb hy =>
        (contains_64 (L.py j) (o.toNat * 6) 64 (b.bs.length - o.toNat) zs W hzl (by omega) hb).mono fun e w' ⟨p, q⟩ => ⟨p, hW.after q, hb.below q, Nat.lt_of_lt_of_le hy q.size⟩
      by_cases hu : zs.any isUn = true
      · rw [if_pos hu]
        rw [hu] at HC
        exact ctx_hole (Lib.hid HS) hr (Lib.hid HC)
      · rw [if_neg hu]
        rw [show zs.any isUn = false by simpa using hu] at HC
        have hx0 : zs[0]? = some (zs[0]?.getD By.zero) := by
          have : zs.length = 64 := hzl
          rw [List.getElem?_eq_getElem (by omega)]; rfl
        refine (ctx_loop (by omega) (Lib.hid HS) hr (Lib.hid HC) (Lib.hid hzl) (Lib.hid hx0)).mono fun e w' hh => ?_
        obtain ⟨⟨hp, he⟩ | ⟨⟨jj, hj, hp⟩, he⟩, hB⟩ := hh
        · rw [if_pos hp]
          exact ⟨he, hB⟩
        · rw [if_neg (fun hall => hp (hall jj hj))]
          exact ⟨he, hB⟩
    · rw [if_pos hr]
      exact ctx_skew (Lib.hid HS) hr
  · rw [if_pos hE]
    exact ctx_err (Lib.hid (anyE h i0 i1 (by omega))) (by simpa using hE)
end
end Go.Proofs.YtejhphnlickjlaaDoor.bl
