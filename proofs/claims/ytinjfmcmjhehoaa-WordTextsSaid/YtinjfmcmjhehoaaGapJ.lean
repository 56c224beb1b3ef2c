/-
  Contract of Give (reference), the main part. No condition but ranges.
-/
import Derived.Test.YtinjfmcmjhehoaaGapI
namespace Go.Proofs.Ytinjfmcmjhehoaa.gaps
open Go.ChangeShapes Go.WideShapes Go.ChangeAt Go.RowKit
open M G
set_option linter.unusedVariables false
set_option maxRecDepth 100000 in
set_option maxHeartbeats 1600000 in
theorem rGive_core (t : Int) (A : Option Addr) (n c : Nat) (l : List Gap) (f s m : Int) (w : World) (hl : l.length = n) (hn : n ≤ 4096) (hc : n ≤ c) (hcm : c ≤ maxLen) (hA : Rd w w.heap.size A (cells l))
    (HC : Hid (∀ W : World, Below w.heap.size w W → Calls Try.prog 40 #[.int .i64 t, .slice A n c] W fun e w' => e = .returned (.int .i64 0) ∧ Below W.heap.size W w'))
    (hs1 : 1 ≤ s) (hs2 : s ≤ 16777216) (HS : Hid (∀ W, Calls Try.prog 58 #[.int .i64 s] W fun e w' => e = .returned (.int .i64 m) ∧ W = w'))
    (t0 : 0 ≤ t) (t1 : t ≤ 16777216) (f0 : 0 ≤ f) (f2 : f % 16 = 0) (m0 : 0 < m) (m1 : m ≤ 16777216) (fm : f ≤ t - m)
    (hb : ∀ g ∈ l, 0 ≤ g.1 ∧ g.1 ≤ 16777216 ∧ 0 ≤ g.2 ∧ g.2 ≤ 16777216) :
    Calls Try.prog 48 #[.int .i64 t, .slice A n c, .agg #[.int .i64 f, .int .i64 s]] w (GiveS w (if l.any (meets (f, m)) then [] else folded l (f, m)) (if l.any (meets (f, m)) then 160 else 0)) := by
  have HA := Lib.hid hA
  have Hl := Lib.hid hl
  have Hb := Lib.hid hb
  have hf2 : (f % 16 != 0) = false := by simp [f2]
  clear hA hl hb f2
  unfold maxLen at hcm
  generalize hR : (if l.any (meets (f, m)) = true then ([] : List Gap) else folded l (f, m)) = R
  generalize hE : (if l.any (meets (f, m)) = true then (160 : Int) else 0) = E
  have HR := Lib.hid hR
  have HE := Lib.hid hE
  clear hR hE
  go_enter Try.func48, Try.ntmps48
  go_wp2_with (first
    | (go_at_call 40; refine (HC.out _ ((Below.refl _ _).alloc (Nat.le_refl _) _)).mono ?_; rintro e w1 ⟨rfl, hb1⟩; have hs1 := hb1.size; simp at hs1; have c0 : w1.cell? ⟨w.heap.size, 0, none⟩ = some (.int .i64 f) := cv hb1 (cn w #[.int .i64 f, .int .i64 s] 47 0) (by simp); have c1 : w1.cell? ⟨w.heap.size, 1, none⟩ = some (.int .i64 s) := cv hb1 (cn w #[.int .i64 f, .int .i64 s] 47 1) (by simp); have fr1 : w1.frozen? ⟨w.heap.size, 1, none⟩ = false := (hb1.frozen (p := ⟨w.heap.size, 1, none⟩) (by simp)).trans (fn w _ _ _))
    | (go_at_call 58; refine (HS.out _).mono ?_; rintro e w2 ⟨rfl, rfl⟩))
  have bwA : Below w.heap.size w w1 := ((Below.refl _ _).alloc (Nat.le_refl _) _).trans (hb1.mono (by simp))
  have bwB : Below w.heap.size w (w1.setCell ⟨w.heap.size, 1, none⟩ (.int .i64 m)) := bwA.setCell (p := ⟨w.heap.size, 1, none⟩) (Nat.le_refl _) _
  have k0 : (w1.setCell ⟨w.heap.size, 1, none⟩ (.int .i64 m)).cell? ⟨w.heap.size, 0, none⟩ = some (.int .i64 f) := by go_simp
  have k1 : (w1.setCell ⟨w.heap.size, 1, none⟩ (.int .i64 m)).cell? ⟨w.heap.size, 1, none⟩ = some (.int .i64 m) := by go_simp
  have ks : w.heap.size + 1 ≤ (w1.setCell ⟨w.heap.size, 1, none⟩ (.int .i64 m)).heap.size := by simp [World.setCell]; omega
  generalize w1.setCell ⟨w.heap.size, 1, none⟩ (.int .i64 m) = W1 at *
  clear c0 c1 fr1 bwA hb1 hs1
  have BwB := Lib.hid bwB
  go_loopw [9] (fun i wr => ∃ k : Nat, k ≤ n ∧ i = .int .i64 k ∧ (l.take k).any (meets (f, m)) = false ∧ ∃ q, wr = W1.drewN q) (fun i _ => n - (intOf i).toNat)
  case atStart => exact ⟨0, by omega, rfl, rfl, 0, rfl⟩
  case round =>
    obtain ⟨k, hk, rfl, hno, q, rfl⟩ := hrel
    have Hno := Lib.hid hno
    clear hno
    by_cases hlt : k < n
    · obtain ⟨ad, p, x1, x2, rfl, hxk, hp, hpb, a1, a2⟩ := rd_at (HA.out.below BwB.out) (k := k) (by rw [Hl.out]; exact hlt)
      obtain ⟨xb1, xb2, xb3, xb4⟩ := Hb.out (x1, x2) (List.mem_of_getElem? hxk)
      simp only at xb1 xb2 xb3 xb4
      have Hxk := Lib.hid hxk
      clear hxk
      by_cases c1 : x1 < f + m
      · by_cases c2 : f < x1 + x2
        · have Hfin : Hid (l.any (meets (f, m)) = true) := Lib.hid (by
            rw [List.any_eq_true]
            exact ⟨(x1, x2), List.mem_of_getElem? Hxk.out, by simp [meets]; omega⟩)
          go_wp2_with fail
          go_quiet (fail)
          go_wp2_with fail
          go_ret2
          rw [← HR.out, ← HE.out, if_pos Hfin.out, if_pos Hfin.out]
          exact nil_give _ _ _ (below_drewN (below_drewN BwB.out _) _)
        · have Hfin : Hid ((l.take (k + 1)).any (meets (f, m)) = false) := Lib.hid (by
            rw [List.take_add_one, Hxk.out, List.any_append, Hno.out]
            simp [meets]; omega)
          go_wp2_with fail
          go_quiet (fail)
          go_wp2_with fail
          go_roundw
          case rel => exact ⟨k + 1, by omega, by go_num, Hfin.out, _, rfl⟩
          case measure => simp [intOf]; omega
      · have Hfin : Hid ((l.take (k + 1)).any (meets (f, m)) = false) := Lib.hid (by
          rw [List.take_add_one, Hxk.out, List.any_append, Hno.out]
          simp [meets]; omega)
        have c1' : decide (x1 < f + m) = false := by simp; omega
        go_wp2_with fail
        go_quiet (fail)
        go_wp2_with fail
        go_roundw
        case rel => exact ⟨k + 1, by omega, by go_num, Hfin.out, _, rfl⟩
        case measure => simp [intOf]; omega
    · obtain rfl : k = n := by omega
      have Hfin : Hid (l.any (meets (f, m)) = false) := Lib.hid (by
        have := Hno.out
        rwa [List.take_of_length_le (by rw [Hl.out]; omega)] at this)
      go_wp2_with fail
      have o2 : ((W1.drewN q).alloc (.cells #[] 47)).ownsRow (w.heap.size + 1) 47 2 (.slice (some ⟨W1.heap.size, 0, none⟩) 0 0) 0 [] := own_empty (W1.drewN q) _ (by simp; omega)
      have b2 : Below w.heap.size w ((W1.drewN q).alloc (.cells #[] 47)) := (below_drewN BwB.out q).alloc (by simp; omega) _
      have z0 : ((W1.drewN q).alloc (.cells #[] 47)).cell? ⟨w.heap.size, 0, none⟩ = some (.int .i64 f) := ca k0 _
      have z1 : ((W1.drewN q).alloc (.cells #[] 47)).cell? ⟨w.heap.size, 1, none⟩ = some (.int .i64 m) := ca k1 _
      have zs : w.heap.size + 1 ≤ ((W1.drewN q).alloc (.cells #[] 47)).heap.size := by simp; omega
      generalize (W1.drewN q).alloc (.cells #[] 47) = W2 at *
      generalize W1.heap.size = g1 at o2 ⊢
      clear k0 k1 ks bwB
      have O2 := Lib.hid o2
      have B2 := Lib.hid b2
      have Z0 := Lib.hid z0
      have Z1 := Lib.hid z1
      have HX : Hid (∀ j, j ≤ k → ∀ x ∈ accF l (f, m) j, Bd x) := Lib.hid (fun j hj => accF_bd (fun x hx => by have := Hb.out x hx; unfold Bd; omega) (by unfold Bd; simp only; omega) j (by rw [Hl.out]; exact hj))
      have Hbn : Hid (behind l (f, m) ≤ k) := Lib.hid (by rw [← Hl.out]; exact List.findIdx_le_length)
      clear o2 b2 z0 z1
      generalize hbh : behind l (f, m) = bh at *
      have Hbh := Lib.hid hbh
      clear hbh
      go_loopw [10, 11, 12] (fun o pt i wr => ∃ (j : Nat) (A' : Option Addr) (c' : Nat), j ≤ k ∧ i = .int .i64 j ∧ pt = .bool (decide (bh < j)) ∧ o = .slice A' (accF l (f, m) j).length c' ∧ (accF l (f, m) j).length ≤ c' ∧ c' ≤ maxLen ∧
        wr.ownsRow (w.heap.size + 1) 47 2 (.slice A' (accF l (f, m) j).length c') (accF l (f, m) j).length (cells (accF l (f, m) j)) ∧ Below (w.heap.size + 1) W2 wr) (fun _ _ i _ => k - (intOf i).toNat)
      case atStart => exact ⟨0, _, 0, by omega, rfl, by simp, rfl, Nat.le_refl _, by simp [maxLen], O2.out, Below.refl _ _⟩
      case round =>
        obtain ⟨j, A', c', hj, rfl, rfl, rfl, hk1, hm1, hown, hbw⟩ := hrel
        have hsz := hbw.size
        have y0 := cv hbw Z0.out (by simp)
        have y1 := cv hbw Z1.out (by simp)
        have bwr : Below w.heap.size w wr := B2.out.trans (hbw.mono (by omega))
        have Bwr := Lib.hid bwr
        clear bwr
        by_cases hlt2 : j < k
        · obtain ⟨ad, p, x1, x2, rfl, hxk, hp, hpb, a1, a2⟩ := rd_at (HA.out.below Bwr.out) (k := j) (by rw [Hl.out]; exact hlt2)
          obtain ⟨xb1, xb2, xb3, xb4⟩ := Hb.out (x1, x2) (List.mem_of_getElem? hxk)
          simp only at xb1 xb2 xb3 xb4
          have Hxk := Lib.hid hxk
          have Hgd : Hid (l.getD j (0, 0) = (x1, x2)) := Lib.hid (by simp [List.getD, hxk])
          have HA2 : Hid (w.cell? p = some (.int .i64 x1) ∧ w.cell? ⟨p.block, p.off + 1, none⟩ = some (.int .i64 x2)) := Lib.hid ⟨(Bwr.out.cell (p := p) hpb).symm.trans a1, (Bwr.out.cell (p := ⟨p.block, p.off + 1, none⟩) hpb).symm.trans a2⟩
          clear hxk
          have HJ := fun (Aq : Option Addr) (cq mq : Nat) (lq : List Gap) (W : World) (h1 : lq.length = mq) (h2 : mq ≤ 8192) (h3 : w.heap.size + 1 ≤ W.heap.size) (h4 : mq ≤ cq) (h5 : cq ≤ maxLen) (h6 : W.ownsRow (w.heap.size + 1) 47 2 (.slice Aq mq cq) mq (cells lq)) (h7 : ∀ x ∈ lq, Bd x) => rjoined_any (w.heap.size + 1) Aq mq cq lq x1 x2 W h1 h2 h3 h4 h5 h6 h7 (by unfold Bd; simp only; omega)
          have HJ := Lib.hid HJ
          by_cases hat : j = bh
          · subst hat
            have Hacc : Hid (accF l (f, m) (j + 1) = joined (joined (accF l (f, m) j) (f, m)) (x1, x2)) := Lib.hid (by rw [accF, if_pos (by rw [Hbh.out]), Hgd.out])
            have Hlen : Hid ((accF l (f, m) j).length ≤ 8190) := Lib.hid (by have := accF_len l (f, m) j; omega)
            have Hbd := Lib.hid (HX.out j hj)
            have Hbd2 : Hid (∀ x ∈ joined (accF l (f, m) j) (f, m), Bd x) := Lib.hid (joined_bd Hbd.out (by unfold Bd; simp only; omega))
            have Hlen2 : Hid ((joined (accF l (f, m) j) (f, m)).length ≤ 8192) := Lib.hid (by have := joined_len (accF l (f, m) j) (f, m); have := Hlen.out; omega)
            have HJ2 := Lib.hid (fun (W : World) (h3 : w.heap.size + 1 ≤ W.heap.size) (h6 : W.ownsRow (w.heap.size + 1) 47 2 (.slice A' (accF l (f, m) j).length c') (accF l (f, m) j).length (cells (accF l (f, m) j))) => rjoined_any (w.heap.size + 1) A' (accF l (f, m) j).length c' (accF l (f, m) j) f m W rfl (by have := Hlen.out; omega) h3 hk1 hm1 h6 Hbd.out (by unfold Bd; simp only; omega))
            generalize joined (accF l (f, m) j) (f, m) = L2 at *
            generalize accF l (f, m) j = L at *
            have hd1 : decide (j < j) = false := by simp
            have hd2 : decide (j < j + 1) = true := by simp
            have hxf : f < x1 := behind_at (g := (f, m)) (by rw [Hbh.out]; exact Hxk.out)
            have Ho := Lib.hid hown
            clear hown
            go_wp2_with fail
            go_quiet (fail)
            go_wp2_with fail
            refine (HJ2.out _ (by simp; omega) (by exact Ho.out)).mono ?_
            rintro e w5 ⟨A5, c5, rfl, hk5, hm5, hown5, hb5⟩
            have bw5 := (below_drewN hbw nq).trans hb5
            have hs5 := bw5.size
            have v1 := cv (B2.out.trans (bw5.mono (by omega))) HA2.out.1 hpb
            have v2 := cv (B2.out.trans (bw5.mono (by omega))) HA2.out.2 hpb
            go_wp2_with fail
            refine (HJ.out A5 c5 L2.length L2 _ rfl Hlen2.out (by omega) hk5 hm5 hown5 Hbd2.out).mono ?_
            rintro e w6 ⟨A6, c6, rfl, hk6, hm6, hown6, hb6⟩
            go_wp2_with fail
            go_roundw
            case rel =>
              refine ⟨j + 1, A6, c6, by omega, by go_num, by rw [hd2], ?_⟩
              rw [Hacc.out]
              exact ⟨rfl, hk6, hm6, hown6, bw5.trans hb6⟩
            case measure => simp [intOf]; omega
          · have Hacc : Hid (accF l (f, m) (j + 1) = joined (accF l (f, m) j) (x1, x2)) := Lib.hid (by rw [accF, if_neg (by rw [Hbh.out]; exact hat), Hgd.out])
            have Hlen : Hid ((accF l (f, m) j).length ≤ 8192) := Lib.hid (by have := accF_len l (f, m) j; omega)
            have Hbd := Lib.hid (HX.out j hj)
            generalize accF l (f, m) j = L at *
            rcases Nat.lt_or_gt_of_ne hat with hjb | hjb
            · have hd1 : decide (bh < j) = false := by simp; omega
              have hd2 : decide (bh < j + 1) = false := by simp; omega
              have hxf : x1 ≤ f := behind_lo (k := j) (by rw [Hbh.out]; exact hjb) Hxk.out
              have hxf' : decide (f < x1) = false := by simp; omega
              have Ho := Lib.hid hown
              clear hown
              go_wp2_with fail
              go_quiet (fail)
              go_wp2_with fail
              refine (HJ.out A' c' L.length L _ rfl Hlen.out (by simp; omega) hk1 hm1 (by exact Ho.out) Hbd.out).mono ?_
              rintro e w5 ⟨A5, c5, rfl, hk5, hm5, hown5, hb5⟩
              go_wp2_with fail
              go_roundw
              case rel =>
                refine ⟨j + 1, A5, c5, by omega, by go_num, by rw [hd2], ?_⟩
                rw [Hacc.out]
                exact ⟨rfl, hk5, hm5, hown5, (below_drewN hbw _).trans hb5⟩
              case measure => simp [intOf]; omega
            · have hd1 : decide (bh < j) = true := by simp; omega
              have hd2 : decide (bh < j + 1) = true := by simp; omega
              have Ho := Lib.hid hown
              clear hown
              go_wp2_with fail
              go_quiet (fail)
              go_wp2_with fail
              refine (HJ.out A' c' L.length L _ rfl Hlen.out (by simp; omega) hk1 hm1 (by exact Ho.out) Hbd.out).mono ?_
              rintro e w5 ⟨A5, c5, rfl, hk5, hm5, hown5, hb5⟩
              go_wp2_with fail
              go_roundw
              case rel =>
                refine ⟨j + 1, A5, c5, by omega, by go_num, by rw [hd2], ?_⟩
                rw [Hacc.out]
                exact ⟨rfl, hk5, hm5, hown5, (below_drewN hbw _).trans hb5⟩
              case measure => simp [intOf]; omega
        · obtain rfl : j = k := by omega
          have Hlen : Hid ((accF l (f, m) j).length ≤ 8192) := Lib.hid (by have := accF_len l (f, m) j; omega)
          have Hbd := Lib.hid (HX.out j hj)
          have HJ := Lib.hid (fun (W : World) (h3 : w.heap.size + 1 ≤ W.heap.size) (h6 : W.ownsRow (w.heap.size + 1) 47 2 (.slice A' (accF l (f, m) j).length c') (accF l (f, m) j).length (cells (accF l (f, m) j))) => rjoined_any (w.heap.size + 1) A' (accF l (f, m) j).length c' (accF l (f, m) j) f m W rfl Hlen.out h3 hk1 hm1 h6 Hbd.out (by unfold Bd; simp only; omega))
          have HFo : Hid (folded l (f, m) = if bh < j then accF l (f, m) j else joined (accF l (f, m) j) (f, m)) := Lib.hid (by
            have := accF_folded l (f, m)
            rw [Hl.out, Hbh.out] at this
            exact this.symm)
          generalize accF l (f, m) j = L at *
          have Ho := Lib.hid hown
          clear hown
          by_cases hjb : bh < j
          · have hd1 : decide (bh < j) = true := by simp; omega
            go_wp2_with fail
            go_ret2
            rw [← HR.out, ← HE.out, if_neg (by rw [Hfin.out]; simp), if_neg (by rw [Hfin.out]; simp), HFo.out, if_pos hjb]
            exact ⟨A', c', rfl, hk1, hm1, own_base Ho.out (by omega), Bwr.out⟩
          · have hd1 : decide (bh < j) = false := by simp; omega
            go_wp2_with fail
            refine (HJ.out _ (by omega) (by exact Ho.out)).mono ?_
            rintro e w5 ⟨A5, c5, rfl, hk5, hm5, hown5, hb5⟩
            go_wp2_with fail
            go_ret2
            rw [← HR.out, ← HE.out, if_neg (by rw [Hfin.out]; simp), if_neg (by rw [Hfin.out]; simp), HFo.out, if_neg hjb]
            exact ⟨A5, c5, rfl, hk5, hm5, own_base hown5 (by omega), Bwr.out.trans (hb5.mono (by omega))⟩
end Go.Proofs.Ytinjfmcmjhehoaa.gaps
