/-
  Contract of Taken (reference): the complement of a list, whatever the list. No condition but that a list is as long as a list can be.
-/
import Derived.Test.YtinjfmcmjhehoaaGapL
namespace Go.Proofs.Ytinjfmcmjhehoaa.gaps
open Go.ChangeShapes Go.WideShapes Go.ChangeAt Go.RowKit
open M G
set_option linter.unusedVariables false
set_option maxRecDepth 100000 in
set_option maxHeartbeats 1600000 in
theorem rTaken_any (t : Int) (A : Option Addr) (n c : Nat) (l : List Gap) (w : World) (hl : l.length = n) (hn : n ≤ maxLen) (hA : Rd w w.heap.size A (cells l)) :
    Calls Try.prog 52 #[.int .i64 t, .slice A n c] w (GiveS w (takenB t l).1 (takenB t l).2) := by
  have HC := Lib.hid (rcheck_any t A n c l w hl hn hA)
  by_cases hce : checkE t l = 0
  · rw [hce] at HC
    obtain ⟨ht, hlen, hchk⟩ := checkE_zero hce
    obtain ⟨t0, t1, -⟩ := okTotal_bd ht
    rw [show takenB t l = (takenR t l, 0) from by unfold takenB; rw [if_neg (by simp [hce])]]
    have HB : Hid (∀ g ∈ l, 0 ≤ g.1 ∧ g.1 ≤ 16777216 ∧ 0 ≤ g.2 ∧ g.2 ≤ 16777216) := Lib.hid (fun g hgl => by
      have := grain_bd (chk_bounds hchk g hgl)
      omega)
    have HA := Lib.hid hA
    have Hl := Lib.hid hl
    have hn4 : n ≤ 4096 := by omega
    have HR : Hid (takenR t l = if (tk l n).1 < t then (tk l n).2 ++ [((tk l n).1, t - (tk l n).1)] else (tk l n).2) := Lib.hid (by unfold takenR; rw [hl])
    generalize takenR t l = R at *
    obtain ⟨i0, hi, hz0, hz1, hz2⟩ := info_parts info47
    clear hce ht hlen hchk hA hl
    go_enter Try.func52, Try.ntmps52
    go_wp2_with (go_at_call 40; refine HC.out.mono ?_; rintro e w1 ⟨rfl, hb1⟩)
    have hs1 := hb1.size
    go_loopw [7, 8, 9] (fun o a i wr => ∃ (k : Nat) (A' : Option Addr) (c' : Nat), k ≤ n ∧ i = .int .i64 k ∧ a = .int .i64 (tk l k).1 ∧ o = .slice A' (tk l k).2.length c' ∧ (tk l k).2.length ≤ c' ∧ c' ≤ maxLen ∧
      wr.ownsRow w.heap.size 47 2 (.slice A' (tk l k).2.length c') (tk l k).2.length (cells (tk l k).2) ∧ Below w.heap.size w wr) (fun _ _ i _ => n - (intOf i).toNat)
    case atStart => exact ⟨0, _, 0, by omega, rfl, rfl, rfl, Nat.le_refl _, by simp [maxLen], own_empty w1 _ hs1, hb1.alloc hs1 _⟩
    case round =>
      obtain ⟨k, A', c', hk, rfl, rfl, rfl, hk1, hm1, hown, hb⟩ := hrel
      have hsz := hb.size
      by_cases hlt : k < n
      · obtain ⟨ad, p, x1, x2, rfl, hxk, hp, hpb, a1, a2⟩ := rd_at (HA.out.below hb) (k := k) (by rw [Hl.out]; exact hlt)
        obtain ⟨xb1, xb2, xb3, xb4⟩ := HB.out (x1, x2) (List.mem_of_getElem? hxk)
        simp only at xb1 xb2 xb3 xb4
        obtain ⟨s1, s2⟩ := tk_bd HB.out k (by rw [Hl.out]; omega)
        have hl4 := tk_len l k
        have HS := Lib.hid (tk_step l k x1 x2 hxk)
        generalize tk l k = T at *
        obtain ⟨T1, T2⟩ := T
        simp only at HS s1 s2 hl4 hk1 hm1 hown ⊢
        clear hxk
        have Ho := Lib.hid hown
        clear hown
        by_cases hgt : T1 < x1
        · have HS2 : Hid (tk l (k + 1) = (x1 + x2, T2 ++ [(T1, x1 - T1)])) := Lib.hid (by rw [HS.out, if_pos hgt])
          have Hlt := Ho.out.lt
          go_upto_region 11 with (at_builtin; refine wpList_append_rs _ rfl (.tmp 30) (.tmp 40) 39 rfl w.heap.size 47 i0 _ 2 16 Try.underlying39 hi hz0 hz1 hz2 rfl (by omega) (.slice A' T2.length c') T2.length (cells T2) rfl (Ho.out.alloc _) _ (some ⟨wr.heap.size, 0, none⟩) 1 1 (cells [(T1, x1 - T1)]) rfl rfl (rd_new wr _ _) (cells_one _) (by simp only [maxLen]; omega) (by omega) (by simp; omega) ?_; intro A4 c4 w4 hk4 hm4 hown4 hg4 hat4; have hs4 := hg4.size; simp at hs4; have b4 : Below w.heap.size w w4 := (hb.alloc hsz _).grown hg4 (by simp; omega) (fun g hg => (Hlt g hg).1); have k0 : w4.cell? p = some (.int .i64 x1) := (World.cell?_of_block (hg4.block p.block (by simp; omega) (fun e => absurd (Hlt _ e.symm).1 (by omega)))).trans (ca a1 _); have k1 : w4.cell? ⟨p.block, p.off + 1, none⟩ = some (.int .i64 x2) := (World.cell?_of_block (a := ⟨p.block, p.off + 1, none⟩) (hg4.block p.block (by simp; omega) (fun e => absurd (Hlt _ e.symm).1 (by omega)))).trans (ca a2 _))
          go_quiet (fail)
          go_wp2_with fail
          go_roundw
          case rel =>
            refine ⟨k + 1, A4, c4, by omega, by go_num, by rw [HS2.out], ?_⟩
            rw [HS2.out]
            simp only [List.length_append, List.length_cons, List.length_nil, Nat.zero_add]
            rw [cells_append]
            exact ⟨trivial, hk4, hm4, hown4, below_drewN b4 _⟩
          case measure => simp [intOf]; omega
        · have HS2 : Hid (tk l (k + 1) = (x1 + x2, T2)) := Lib.hid (by rw [HS.out, if_neg hgt])
          go_upto_region 11 with fail
          go_quiet (fail)
          go_wp2_with fail
          go_roundw
          case rel =>
            refine ⟨k + 1, A', c', by omega, by go_num, by rw [HS2.out], ?_⟩
            rw [HS2.out]
            exact ⟨rfl, hk1, hm1, Ho.out, below_drewN hb _⟩
          case measure => simp [intOf]; omega
      · obtain rfl : k = n := by omega
        obtain ⟨s1, s2⟩ := tk_bd HB.out k (by rw [Hl.out]; omega)
        have hl4 := tk_len l k
        generalize tk l k = T at *
        obtain ⟨T1, T2⟩ := T
        simp only at HR s1 s2 hl4 hk1 hm1 hown ⊢
        have Ho := Lib.hid hown
        clear hown
        have Hlt := Ho.out.lt
        by_cases hgt : T1 < t
        · rw [if_pos hgt] at HR
          go_wp2_with (at_builtin; refine wpList_append_rs _ rfl (.tmp 56) (.tmp 62) 39 rfl w.heap.size 47 i0 _ 2 16 Try.underlying39 hi hz0 hz1 hz2 rfl (by omega) (.slice A' T2.length c') T2.length (cells T2) rfl (Ho.out.alloc _) _ (some ⟨wr.heap.size, 0, none⟩) 1 1 (cells [(T1, t - T1)]) rfl rfl (rd_new wr _ _) (cells_one _) (by simp only [maxLen]; omega) (by omega) (by simp; omega) ?_; intro A4 c4 w4 hk4 hm4 hown4 hg4 hat4; have hs4 := hg4.size; simp at hs4; have b4 : Below w.heap.size w w4 := (hb.alloc hsz _).grown hg4 (by simp; omega) (fun g hg => (Hlt g hg).1))
          go_ret2
          rw [← cells_append] at hown4
          rw [show R = T2 ++ [(T1, t - T1)] from HR.out]
          refine ⟨A4, c4, by simp, ?_, hm4, ?_, b4⟩
          · simpa using hk4
          · simpa using hown4
        · rw [if_neg hgt] at HR
          go_wp2_with fail
          go_ret2
          rw [show R = T2 from HR.out]
          exact ⟨A', c', rfl, hk1, hm1, Ho.out, hb⟩
  · rw [show takenB t l = ([], checkE t l) from by unfold takenB; rw [if_pos (by simpa using hce)]]
    have hb : (checkE t l != 0) = true := by simp [hce]
    generalize checkE t l = ce at *
    clear hce hA hl
    go_enter Try.func52, Try.ntmps52
    go_wp2_with (go_at_call 40; refine HC.out.mono ?_; rintro e w1 ⟨rfl, hb1⟩)
    go_ret2
    exact nil_give _ _ _ hb1
end Go.Proofs.Ytinjfmcmjhehoaa.gaps
