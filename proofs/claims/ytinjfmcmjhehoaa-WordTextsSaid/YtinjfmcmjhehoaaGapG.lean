/-
  Contract of give (package gap): giving a range back, whatever the list within an arena. No condition but the ranges that Check pays.
-/
import Derived.Test.YtinjfmcmjhehoaaGapF
import Derived.Deep.Cut
import Derived.Deep.CutRange

namespace Go.Proofs.Ytinjfmcmjhehoaa.gaps
open Go.ChangeShapes Go.WideShapes Go.ChangeAt Go.RowKit
open M G
set_option linter.unusedVariables false
theorem below_drewN {B : Nat} {a w : World} (h : Below B a w) (n : Nat) : Below B a (w.drewN n) := ⟨h.os, h.tape, h.output, h.size, h.block⟩
theorem cells_set (a : List Gap) (j : Nat) (y1 y2 z : Int) (h : a.length = j) : (cells (a ++ [(y1, y2)])).set (j * 2 + 1) (.int .i64 z) = cells (a ++ [(y1, z)]) := by
  rw [cells_append, cells_append, List.set_append_right _ _ (by rw [cells_length]; omega), cells_length, h]
  rw [show j * 2 + 1 - j * 2 = 1 from by omega]
  rfl
theorem joined_len (l : List Gap) (g : Gap) : (joined l g).length ≤ l.length + 1 := by
  rcases List.eq_nil_or_concat l with rfl | ⟨a, x, rfl⟩
  · simp [joined]
  · rw [List.concat_eq_append, joined_snoc]
    split <;> simp
theorem close_give2 (b : Nat) (m x1 x2 : Int) (w : World) (hb : b < w.heap.size) (hc : w.cell? ⟨b, 0, none⟩ = some (.int .i64 m)) :
    Calls Try.prog 71 #[.agg #[.int .i64 x1, .int .i64 x2], .pointer (some ⟨b, 0, none⟩)] w fun e w' => e = .returned (.bool (decide (m < x1))) ∧ Below w.heap.size w w' := close_give b m 0 x1 x2 w hb hc
theorem clone_s (A : Option Addr) (n c : Nat) (l : List Gap) (w : World) (hl : l.length = n) (hn : n * 16 ≤ 140737488355328) (hA : Rd w w.heap.size A (cells l)) :
    Calls Try.prog 67 #[.slice A n c] w fun e w' => ∃ A' c', e = .returned (.slice A' n c') ∧ n ≤ c' ∧ c' ≤ maxLen ∧ w'.ownsRow w.heap.size 47 2 (.slice A' n c') n (cells l) ∧ Below w.heap.size w w' :=
  (clone_any A n c l w hl hn hA).mono fun e w' ⟨v, he, ho, hb⟩ => by
    obtain ⟨A', c', rfl, g1, g2⟩ := own_form ho
    exact ⟨A', c', he, g1, g2, ho, hb⟩
set_option maxRecDepth 100000 in
set_option maxHeartbeats 1600000 in
theorem give_any (A : Option Addr) (n c : Nat) (l : List Gap) (f s : Int) (w : World) (hl : l.length = n) (hn : n ≤ 4097) (hc : n ≤ c) (hcm : c ≤ maxLen) (hA : Rd w w.heap.size A (cells l))
    (hb : ∀ g ∈ l, 0 ≤ g.1 ∧ g.1 ≤ 16777216 ∧ 0 ≤ g.2 ∧ g.2 ≤ 16777216) (f0 : 0 ≤ f) (f1 : f ≤ 16777216) (s0 : 0 ≤ s) (s1 : s ≤ 16777216) :
    Calls Try.prog 63 #[.slice A n c, .agg #[.int .i64 f, .int .i64 s]] w fun e w' => ∃ A' c', e = .returned (.slice A' (giveL l (f, s)).length c') ∧ (giveL l (f, s)).length ≤ c' ∧ c' ≤ maxLen ∧
      w'.ownsRow w.heap.size 47 2 (.slice A' (giveL l (f, s)).length c') (giveL l (f, s)).length (cells (giveL l (f, s))) ∧ Below w.heap.size w w' := by
  unfold maxLen at hcm
  obtain ⟨i0, hi, hz0, hz1, hz2⟩ := info_parts info47
  have hkn : behind l (f, s) ≤ n := by rw [← hl]; exact List.findIdx_le_length
  have HI : Hid (∀ W : World, Below w.heap.size w W → W.cell? ⟨w.heap.size, 0, none⟩ = some (.int .i64 f) → w.heap.size < W.heap.size → Calls Try.prog 68 #[.slice A n c, .func (.func 71) #[] #[.pointer (some ⟨w.heap.size, 0, none⟩)]] W
      fun e w' => e = .returned (.int .i64 (if behind l (f, s) < n then (behind l (f, s) : Int) else -1)) ∧ Below W.heap.size W w') := Lib.hid (by
    intro W hb hc hlt
    exact index_71 (.pointer (some ⟨w.heap.size, 0, none⟩)) (fun o => decide (f < o.1)) A n c l W hl (by simp only [maxLen]; omega) ((hA.below hb).more (by have := hb.size; omega))
      (fun W' x1 x2 hb' _ => close_give2 w.heap.size f x1 x2 W' (by have := hb'.size; omega) (by rw [hb'.cell (p := ⟨w.heap.size, 0, none⟩) hlt]; exact hc)))
  have HT : Hid (∀ W : World, Below w.heap.size w W → Rd W W.heap.size A (cells (l.take (behind l (f, s))))) := Lib.hid (fun W hb => by
    rw [cells_take]; exact ((hA.below hb).take _).more (by have := hb.size; omega))
  have Hgive : Hid (giveL l (f, s) = match l.drop (behind l (f, s)) with | [] => joined (l.take (behind l (f, s))) (f, s) | r :: rs => joined (joined (l.take (behind l (f, s))) (f, s)) r ++ rs) := Lib.hid rfl
  generalize giveL l (f, s) = ans at Hgive ⊢
  generalize behind l (f, s) = k at *
  have HA := Lib.hid hA
  have Hl := Lib.hid hl
  have Hb := Lib.hid hb
  have HtL : Hid ((l.take k).length = k) := Lib.hid (by rw [List.length_take, hl]; omega)
  clear hl hA hb
  have hkk : k < n ∨ k = n := by omega
  have Hkk := Lib.hid hkk
  clear hkk
  go_enter Try.func63, Try.ntmps63
  go_upto_if 14 with (first
    | (go_at_call 68; refine (HI.out _ ((Below.refl _ _).alloc (Nat.le_refl _) _) (by simp) (by simp)).mono ?_; rintro e w1 ⟨rfl, hb1⟩; have hs1 := hb1.size; simp at hs1; have m1 : w1.cell? ⟨w.heap.size, 0, none⟩ = some (.int .i64 f) := cv hb1 (cn w #[.int .i64 f, .int .i64 s] 47 0) (by simp); have m2 : w1.cell? ⟨w.heap.size, 1, none⟩ = some (.int .i64 s) := cv hb1 (cn w #[.int .i64 f, .int .i64 s] 47 1) (by simp)))
  go_cut [5] from 10 (fun s5 wc => s5 = .int .i64 k ∧ wc = w1)
  case first =>
    rcases Hkk.out with h | h
    · have hi1 : (if k < n then (k : Int) else -1) = k := if_pos h
      have h0 : ¬ ((k : Int) < 0) := by omega
      go_wp2_with fail
      go_meet
      case rel => exact ⟨rfl, rfl⟩
    · subst h
      have hi1 : (if k < k then (k : Int) else -1) = -1 := if_neg (by omega)
      go_wp2_with fail
      go_meet
      case rel => exact ⟨rfl, rfl⟩
  case rest =>
    obtain ⟨rfl, rfl⟩ := hcut
    have bw1 : Below w.heap.size w wc := ((Below.refl _ _).alloc (Nat.le_refl _) _).trans (hb1.mono (by simp))
    go_upto_region 6 with (first
      | (go_at_call 67; go_loud (refine (clone_s A k k (l.take k) _ HtL.out (by omega) (HT.out _ bw1)).mono ?_); rintro e w2 ⟨A2, c2, rfl, hk2, hm2, hown2, hb2⟩; have hs2 := hb2.size; have g1 := cv hb2 m1 (by simp; omega); have g2 := cv hb2 m2 (by simp; omega)))
    have b2 : Below w.heap.size w w2 := bw1.trans (hb2.mono bw1.size)
    have hw2 := own_base hown2 (base' := w.heap.size) bw1.size
    have HW2 := Lib.hid hw2
    have HO2 := Lib.hid hown2
    have B2 := Lib.hid b2
    clear hown2 hw2 b2
    have HL : Hid (∀ j, k = j + 1 → ∃ gb y1 y2, A2 = some ⟨gb, 0, none⟩ ∧ wc.heap.size ≤ gb ∧ l.take k = l.take j ++ [(y1, y2)] ∧ w2.cell? ⟨gb, j * 2, none⟩ = some (.int .i64 y1) ∧ w2.cell? ⟨gb, j * 2 + 1, none⟩ = some (.int .i64 y2) ∧
        w2.frozen? ⟨gb, j * 2 + 1, none⟩ = false ∧ 0 ≤ y1 ∧ y1 ≤ 16777216 ∧ 0 ≤ y2 ∧ y2 ≤ 16777216) := Lib.hid (by
      rintro j rfl
      obtain ⟨gb, rfl, hgb⟩ := own_some HO2.out (by omega)
      have hjl : j < (l.take (j + 1)).length := by rw [HtL.out]; omega
      obtain ⟨y1, y2, hy⟩ : ∃ y1 y2, (l.take (j + 1))[j]? = some (y1, y2) := ⟨_, _, List.getElem?_eq_getElem hjl⟩
      obtain ⟨q1, q2⟩ := cells_get _ _ _ hy
      have hyb := Hb.out (y1, y2) (List.mem_of_mem_take (List.mem_of_getElem? hy))
      have hl' : l[j]? = some (y1, y2) := by rw [List.getElem?_take, if_pos (by omega)] at hy; exact hy
      exact ⟨gb, y1, y2, rfl, hgb, by rw [List.take_add_one, hl']; rfl, (HO2.out.cellAt (j * 2) (by omega)).trans q1, (HO2.out.cellAt (j * 2 + 1) (by omega)).trans q2, HO2.out.frozenAt (j * 2 + 1), hyb⟩)
    obtain ⟨tb, Htb⟩ : ∃ tb : Bool, Hid (tb = match (l.take k).getLast? with | some x => decide (x.1 + x.2 = f) | none => false) := ⟨_, Lib.hid rfl⟩
    go_cut [42] from 25 (fun s42 wx => s42 = .bool tb ∧ ∃ nq, wx = w2.drewN nq)
    case first =>
      rcases Nat.eq_zero_or_pos k with h | h
      · subst h
        have hf : tb = false := Htb.out
        subst hf
        go_wp2_with fail
        go_quiet (fail)
        go_wp2_with fail
        go_meet
        case rel => exact ⟨rfl, _, rfl⟩
      · obtain ⟨j, rfl⟩ : ∃ j, k = j + 1 := ⟨k - 1, by omega⟩
        obtain ⟨gb, y1, y2, rfl, hgb, hlj, e1, e2, fr, yb1, yb2, yb3, yb4⟩ := HL.out j rfl
        have htb := Htb.out
        rw [hlj, List.getLast?_concat] at htb
        simp only at htb
        clear hlj
        have j0 : (0 : Int) ≤ j := by omega
        have j1 : (j : Int) < (j : Int) + 1 := by omega
        by_cases ht : y1 + y2 = f
        · have hbt : (y1 + y2 == f) = true := by simp [ht]
          obtain rfl : tb = true := by rw [htb]; simp [ht]
          clear ht htb
          go_wp2_with fail
          go_quiet (fail)
          go_wp2_with fail
          go_meet
          case rel => exact ⟨rfl, _, rfl⟩
        · have hbt : (y1 + y2 == f) = false := by simp [ht]
          obtain rfl : tb = false := by rw [htb]; simp [ht]
          clear ht htb
          go_wp2_with fail
          go_quiet (fail)
          go_wp2_with fail
          go_meet
          case rel => exact ⟨rfl, _, rfl⟩
    case rest =>
      obtain ⟨rfl, nq, rfl⟩ := hcut
      go_upto_if 42 with (fail)
      have HJT : Hid (joined (l.take k) (f, s) = match (l.take k).getLast? with | some x => if x.1 + x.2 = f then (l.take k).dropLast ++ [(x.1, x.2 + s)] else l.take k ++ [(f, s)] | none => [(f, s)]) := Lib.hid rfl
      have HJlen : Hid ((joined (l.take k) (f, s)).length ≤ k + 1) := Lib.hid (by have := joined_len (l.take k) (f, s); rw [HtL.out] at this; exact this)
      have Hg2 := Hgive
      clear Hgive
      generalize joined (l.take k) (f, s) = J at *
      go_cut [6] from 25 (fun s6 wx => ∃ A3 c3, s6 = .slice A3 J.length c3 ∧ J.length ≤ c3 ∧ c3 ≤ maxLen ∧ wx.ownsRow w.heap.size 47 2 (.slice A3 J.length c3) J.length (cells J) ∧ Below w.heap.size w wx)
      case first =>
        have hbw := bw1.size
        have hbs := B2.out.size
        cases tb with
        | false =>
          have HJ : Hid (J = l.take k ++ [(f, s)]) := Lib.hid (by
            have h1 := HJT.out
            have h2 := Htb.out
            rw [h1]
            rcases List.eq_nil_or_concat (l.take k) with h | ⟨a, x, h⟩
            · rw [h]; rfl
            · rw [List.concat_eq_append] at h
              rw [h, List.getLast?_concat] at h2 ⊢
              simp only at h2 ⊢
              rw [if_neg (by simpa using h2.symm)])
          have hv2 := HO2.out.lt
          go_wp2_with (at_builtin; refine wpList_append_rs _ rfl (.tmp 53) (.tmp 55) 39 rfl w.heap.size 47 i0 _ 2 16 Try.underlying39 hi hz0 hz1 hz2 rfl (by omega) (.slice A2 k c2) k (cells (l.take k)) rfl (World.ownsRow.alloc (w := w2.drewN nq) HW2.out _) _ (some ⟨w2.heap.size, 0, none⟩) 1 1 (cells [(f, s)]) rfl rfl (rd_new (w2.drewN nq) _ _) (cells_one _) (by simp only [maxLen]; omega) (by omega) (by simp; omega) ?_; intro A3 c3 w3 hk3 hm3 hown3 hg3 hat3)
          go_meet
          case rel =>
            rw [HJ.out, List.length_append, HtL.out, cells_append]
            exact ⟨A3, c3, rfl, hk3, hm3, hown3, ((below_drewN B2.out nq).alloc (by simp; omega) _).grown hg3 (by simp; omega) (fun g hg => by have := (hv2 g hg).1; omega)⟩
        | true =>
          have hk0 : 0 < k := by
            rcases Nat.eq_zero_or_pos k with h | h
            · subst h; cases Htb.out
            · exact h
          obtain ⟨j, rfl⟩ : ∃ j, k = j + 1 := ⟨k - 1, by omega⟩
          obtain ⟨gb, y1, y2, rfl, hgb, hlj, e1, e2, fr, yb1, yb2, yb3, yb4⟩ := HL.out j rfl
          have HJ : Hid (J = l.take j ++ [(y1, y2 + s)]) := Lib.hid (by
            have h1 := HJT.out
            have h2 := Htb.out
            rw [h1]
            rw [hlj, List.getLast?_concat] at h2 ⊢
            simp only at h2 ⊢
            rw [if_pos (by simpa using h2.symm), List.dropLast_concat])
          have HX : Hid (∀ W : World, W.ownsRow w.heap.size 47 2 (.slice (some ⟨gb, 0, none⟩) (j + 1) c2) (j + 1) (cells (l.take (j + 1))) → (W.setCell ⟨gb, j * 2 + 1, none⟩ (.int .i64 (y2 + s))).ownsRow w.heap.size 47 2 (.slice (some ⟨gb, 0, none⟩) (j + 1) c2) (j + 1) (cells (l.take j ++ [(y1, y2 + s)]))) := Lib.hid (fun W h => by
            have h3 := (h.stored (j * 2 + 1) (.int .i64 (y2 + s))).1
            have hlen : (l.take j).length = j := by
              have := congrArg List.length hlj
              rw [HtL.out, List.length_append] at this
              simpa using this.symm
            rw [hlj, cells_set _ _ _ _ _ hlen] at h3
            exact h3)
          have Hlen : Hid ((l.take j ++ [(y1, y2 + s)]).length = j + 1) := Lib.hid (by
              have := congrArg List.length hlj
              rw [HtL.out, List.length_append] at this
              rw [List.length_append]
              simpa using this.symm)
          have j0 : (0 : Int) ≤ j := by omega
          have j1 : (j : Int) < (j : Int) + 1 := by omega
          have k3 : IntKind.i64.wrap (y2 + s) = y2 + s := by rw [IntKind.wrap_i64]; omega
          clear hlj
          go_wp2_with fail
          go_region
          go_wp2_with fail
          go_meet
          case rel =>
            rw [HJ.out, Hlen.out]
            exact ⟨_, c2, rfl, hk2, hm2, by exact HX.out _ HW2.out, Below.setCell (by exact (below_drewN B2.out nq).drew) (p := ⟨gb, j * 2 + 1, none⟩) (show w.heap.size ≤ gb by omega) _⟩
      case rest =>
        obtain ⟨A3, c3, rfl, hk3, hm3, hown3, b3⟩ := hcut
        have HL3 : Hid (∃ a z1 z2, J = a ++ [(z1, z2)] ∧ z1 + z2 = f + s ∧ 0 ≤ z1 ∧ 0 ≤ z2 ∧ z2 ≤ 33554432) := Lib.hid (by
          have h1 := HJT.out
          rcases Nat.eq_zero_or_pos k with h | h
          · subst h
            exact ⟨[], f, s, h1, rfl, f0, s0, by omega⟩
          · obtain ⟨j, rfl⟩ : ∃ j, k = j + 1 := ⟨k - 1, by omega⟩
            obtain ⟨gb, y1, y2, rfl, hgb, hlj, e1, e2, fr, yb1, yb2, yb3, yb4⟩ := HL.out j rfl
            rw [hlj, List.getLast?_concat] at h1
            simp only at h1
            split at h1
            · rename_i hh
              rw [List.dropLast_concat] at h1
              exact ⟨_, y1, y2 + s, h1, by omega, yb1, by omega, by omega⟩
            · exact ⟨l.take j ++ [(y1, y2)], f, s, h1, rfl, f0, s0, by omega⟩)
        obtain ⟨a, z1, z2, rfl, hz, hzb1, hzb2, hzb3⟩ := HL3.out
        have Hz := Lib.hid hz
        have hzb4 : z1 + z2 ≤ 33554432 := by omega
        have hzb5 : wrap64 (z1 + z2) = z1 + z2 := IntWalk.wrap64_in _ (by omega)
        obtain ⟨p, hp⟩ : ∃ p, a.length = p := ⟨_, rfl⟩
        have hJl : (a ++ [(z1, z2)]).length = p + 1 := by rw [List.length_append, hp]; rfl
        rw [hJl] at hk3 hown3 ⊢
        obtain ⟨gb, rfl, hgb⟩ := own_some hown3 (by omega)
        have e1 := (hown3.cellAt (p * 2) (by omega)).trans (cells_get (a ++ [(z1, z2)]) p (z1, z2) (by rw [← hp]; simp)).1
        have e2 := (hown3.cellAt (p * 2 + 1) (by omega)).trans (cells_get (a ++ [(z1, z2)]) p (z1, z2) (by rw [← hp]; simp)).2
        have fr := hown3.frozenAt (p * 2 + 1)
        simp only at e1 e2
        have HO3 := Lib.hid hown3
        have B3 := Lib.hid b3
        have Hp := Lib.hid hp
        have HJl := Lib.hid hJl
        have p0 : (0 : Int) ≤ p := by omega
        have p1 : (p : Int) < (p : Int) + 1 := by omega
        have hpb : p ≤ 4097 := by
          have := HJlen.out
          rw [HJl.out] at this
          omega
        clear hz hp hJl hown3 b3 HL HL3
        rcases Hkk.out with hlt | hlt
        · obtain ⟨ad, q, r1, r2, rfl, hrk, hq, hqb, c1, c2'⟩ := rd_at (HA.out.below B3.out) (k := k) (by rw [Hl.out]; exact hlt)
          have hrb := Hb.out (r1, r2) (List.mem_of_getElem? hrk)
          simp only at hrb
          obtain ⟨rb1, rb2, rb3, rb4⟩ := hrb
          have Hdrop : Hid (l.drop k = (r1, r2) :: l.drop (k + 1)) := Lib.hid (by
            have hk' : k < l.length := by rw [Hl.out]; exact hlt
            rw [List.drop_eq_getElem_cons hk', (List.getElem?_eq_some_iff.1 hrk).2])
          clear hrk
          have hnk1 : (0 : Int) < ((n - k : Nat) : Int) := by omega
          have hnk2 : 0 < n - k := by omega
          have hck : ¬ c = k := by omega
          have HD : Hid (∀ W : World, Below w.heap.size w W → Rd W W.heap.size (some q) (cells (l.drop k))) := Lib.hid (fun W hb => by
            rw [cells_drop]
            have := ((HA.out.below hb).drop (k * 2)).more (by have := hb.size; omega : w.heap.size ≤ W.heap.size)
            rw [Option.map_some, hq] at this
            exact this)
          have HD2 : Hid (∀ W : World, Below w.heap.size w W → Rd W W.heap.size (if c - k = 1 then some q else some (q.add 2)) (cells (l.drop (k + 1)))) := Lib.hid (fun W hb => by
            split
            · rw [List.drop_eq_nil_of_le (by rw [Hl.out]; omega)]; exact Rd.nil
            · have := (HD.out W hb).drop 2
              rw [Hdrop.out, cells_cons] at this
              exact this)
          have HdL : Hid ((l.drop k).length = n - k) := Lib.hid (by rw [List.length_drop, Hl.out])
          have HdL2 : Hid ((l.drop (k + 1)).length = n - k - 1) := Lib.hid (by rw [List.length_drop, Hl.out]; omega)
          have HG : Hid (ans = joined (a ++ [(z1, z2)]) (r1, r2) ++ l.drop (k + 1)) := Lib.hid (by
            have h := Hg2.out
            rw [Hdrop.out] at h
            exact h)
          by_cases ht : z1 + z2 = r1
          · have hbt : (z1 + z2 == r1) = true := by simp [ht]
            have HG2 : Hid (ans = (a ++ [(z1, z2 + r2)]) ++ l.drop (k + 1)) := Lib.hid (by rw [HG.out, joined_snoc, if_pos ht])
            clear ht
            have HX : Hid (∀ W : World, W.ownsRow w.heap.size 47 2 (.slice (some ⟨gb, 0, none⟩) (p + 1) c3) (p + 1) (cells (a ++ [(z1, z2)])) → (W.setCell ⟨gb, p * 2 + 1, none⟩ (.int .i64 (z2 + r2))).ownsRow w.heap.size 47 2 (.slice (some ⟨gb, 0, none⟩) (p + 1) c3) (p + 1) (cells (a ++ [(z1, z2 + r2)]))) := Lib.hid (fun W h => by
              have h3 := (h.stored (p * 2 + 1) (.int .i64 (z2 + r2))).1
              rw [cells_set _ _ _ _ _ Hp.out] at h3
              exact h3)
            have k3 : IntKind.i64.wrap (z2 + r2) = z2 + r2 := by rw [IntKind.wrap_i64]; omega
            have Hal : Hid (ans.length = p + 1 + (n - k - 1)) := Lib.hid (by rw [HG2.out, List.length_append, HdL2.out, List.length_append, Hp.out]; rfl)
            by_cases hc1 : c - k = 1
            · go_wp2_with fail
              go_quiet (fail)
              go_wp2_with fail
              go_region
              have HW : Hid (Below w.heap.size w ((wc.drewN nq).drew.setCell ⟨gb, p * 2 + 1, none⟩ (.int .i64 (z2 + r2)))) := Lib.hid (Below.setCell (below_drewN B3.out nq).drew (p := ⟨gb, p * 2 + 1, none⟩) (show w.heap.size ≤ gb by omega) _)
              go_wp2_with (at_builtin; refine wpList_append_rs _ rfl (.tmp 98) (.tmp 99) 39 rfl w.heap.size 47 i0 _ 2 16 Try.underlying39 hi hz0 hz1 hz2 rfl (by omega) (.slice (some ⟨gb, 0, none⟩) (p + 1) c3) (p + 1) (cells (a ++ [(z1, z2 + r2)])) rfl (by exact HX.out _ HO3.out) _ (some q) (n - k - 1) _ (cells (l.drop (k + 1))) rfl (by rw [cells_length, HdL2.out]) (by have := HD2.out _ HW.out; rw [if_pos hc1] at this; exact this) (cells_one _) (by simp only [maxLen]; omega) (by omega) (by have := B3.out.size; simp [World.setCell]; omega) ?_; intro A4 c4 w4 hk4 hm4 hown4 hg4 hat4)
              go_ret
              rw [Hal.out]
              refine ⟨A4, c4, rfl, hk4, hm4, ?_, Below.grown (by exact HW.out) hg4 (by have := B3.out.size; simp [World.setCell]; omega) (fun g hg => by have := lit_block hg; omega)⟩
              rw [HG2.out, cells_append]
              exact hown4
            · go_wp2_with fail
              go_quiet (fail)
              go_wp2_with fail
              go_region
              have HW : Hid (Below w.heap.size w ((wc.drewN nq).drew.setCell ⟨gb, p * 2 + 1, none⟩ (.int .i64 (z2 + r2)))) := Lib.hid (Below.setCell (below_drewN B3.out nq).drew (p := ⟨gb, p * 2 + 1, none⟩) (show w.heap.size ≤ gb by omega) _)
              go_wp2_with (at_builtin; refine wpList_append_rs _ rfl (.tmp 98) (.tmp 99) 39 rfl w.heap.size 47 i0 _ 2 16 Try.underlying39 hi hz0 hz1 hz2 rfl (by omega) (.slice (some ⟨gb, 0, none⟩) (p + 1) c3) (p + 1) (cells (a ++ [(z1, z2 + r2)])) rfl (by exact HX.out _ HO3.out) _ (some (q.add 2)) (n - k - 1) _ (cells (l.drop (k + 1))) rfl (by rw [cells_length, HdL2.out]) (by have := HD2.out _ HW.out; rw [if_neg hc1] at this; exact this) (cells_one _) (by simp only [maxLen]; omega) (by omega) (by have := B3.out.size; simp [World.setCell]; omega) ?_; intro A4 c4 w4 hk4 hm4 hown4 hg4 hat4)
              go_ret
              rw [Hal.out]
              refine ⟨A4, c4, rfl, hk4, hm4, ?_, Below.grown (by exact HW.out) hg4 (by have := B3.out.size; simp [World.setCell]; omega) (fun g hg => by have := lit_block hg; omega)⟩
              rw [HG2.out, cells_append]
              exact hown4
          · have hbt : (z1 + z2 == r1) = false := by simp [ht]
            have HG2 : Hid (ans = (a ++ [(z1, z2)]) ++ l.drop k) := Lib.hid (by rw [HG.out, joined_snoc, if_neg ht, Hdrop.out]; simp)
            have Hal : Hid (ans.length = p + 1 + (n - k)) := Lib.hid (by rw [HG2.out, List.length_append, HJl.out, HdL.out])
            clear ht
            go_wp2_with fail
            go_quiet (fail)
            go_wp2_with (at_builtin; refine wpList_append_rs _ rfl (.tmp 98) (.tmp 99) 39 rfl w.heap.size 47 i0 _ 2 16 Try.underlying39 hi hz0 hz1 hz2 rfl (by omega) (.slice (some ⟨gb, 0, none⟩) (p + 1) c3) (p + 1) (cells (a ++ [(z1, z2)])) rfl (by exact HO3.out) _ (some q) (n - k) (c - k) (cells (l.drop k)) rfl (by rw [cells_length, HdL.out]) (by exact HD.out _ (below_drewN B3.out _)) (cells_one _) (by simp only [maxLen]; omega) (by omega) (by have := B3.out.size; simp; omega) ?_; intro A4 c4 w4 hk4 hm4 hown4 hg4 hat4)
            go_ret
            rw [Hal.out]
            refine ⟨A4, c4, rfl, hk4, hm4, ?_, (below_drewN B3.out _).grown hg4 (by have := B3.out.size; simp; omega) (fun g hg => by have := lit_block hg; omega)⟩
            rw [HG2.out, cells_append]
            exact hown4
        · subst hlt
          have HG2 : Hid (ans = a ++ [(z1, z2)]) := Lib.hid (by
            have h := Hg2.out
            rw [List.drop_eq_nil_of_le (by rw [Hl.out]; omega)] at h
            exact h)
          by_cases hck : c = k
          · go_wp2_with fail
            go_quiet (fail)
            go_wp2_with (at_builtin; refine wpList_append_rs _ rfl (.tmp 98) (.tmp 99) 39 rfl w.heap.size 47 i0 _ 2 16 Try.underlying39 hi hz0 hz1 hz2 rfl (by omega) (.slice (some ⟨gb, 0, none⟩) (p + 1) c3) (p + 1) (cells (a ++ [(z1, z2)])) rfl (by exact HO3.out) w.heap.size _ 0 _ [] rfl rfl Rd.nil (by simp) (by simp only [maxLen]; omega) (by omega) (by have := B3.out.size; simp; omega) ?_; intro A4 c4 w4 hk4 hm4 hown4 hg4 hat4)
            go_ret
            rw [HG2.out, HJl.out]
            refine ⟨A4, c4, rfl, hk4, hm4, ?_, (below_drewN B3.out _).grown hg4 (by have := B3.out.size; simp; omega) (fun g hg => by have := lit_block hg; omega)⟩
            simpa using hown4
          · go_wp2_with fail
            go_quiet (fail)
            go_wp2_with (at_builtin; refine wpList_append_rs _ rfl (.tmp 98) (.tmp 99) 39 rfl w.heap.size 47 i0 _ 2 16 Try.underlying39 hi hz0 hz1 hz2 rfl (by omega) (.slice (some ⟨gb, 0, none⟩) (p + 1) c3) (p + 1) (cells (a ++ [(z1, z2)])) rfl (by exact HO3.out) w.heap.size _ 0 _ [] rfl rfl Rd.nil (by simp) (by simp only [maxLen]; omega) (by omega) (by have := B3.out.size; simp; omega) ?_; intro A4 c4 w4 hk4 hm4 hown4 hg4 hat4)
            go_ret
            rw [HG2.out, HJl.out]
            refine ⟨A4, c4, rfl, hk4, hm4, ?_, (below_drewN B3.out _).grown hg4 (by have := B3.out.size; simp; omega) (fun g hg => by have := lit_block hg; omega)⟩
            simpa using hown4
end Go.Proofs.Ytinjfmcmjhehoaa.gaps
