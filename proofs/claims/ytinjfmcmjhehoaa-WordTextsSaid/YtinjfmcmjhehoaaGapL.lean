/-
  Contracts of Free and Taken: the sums and the complement of a list, whatever the list. No condition but that a list is as long as a list can be.
-/
import Derived.Test.YtinjfmcmjhehoaaGapK
namespace Go.Proofs.Ytinjfmcmjhehoaa.gaps
open Go.ChangeShapes Go.WideShapes Go.ChangeAt Go.RowKit
open M G
set_option linter.unusedVariables false
def fsum (l : List Gap) : Int := l.foldl (fun a g => a + g.2) 0
def fgreat (l : List Gap) : Int := l.foldl (fun a g => max a g.2) 0
theorem fsum_step (l : List Gap) (k : Nat) (x1 x2 : Int) (h : l[k]? = some (x1, x2)) : fsum (l.take (k + 1)) = fsum (l.take k) + x2 := by
  rw [fsum, fsum, List.take_add_one, h, List.foldl_append]; rfl
theorem fgreat_step (l : List Gap) (k : Nat) (x1 x2 : Int) (h : l[k]? = some (x1, x2)) : fgreat (l.take (k + 1)) = max (fgreat (l.take k)) x2 := by
  rw [fgreat, fgreat, List.take_add_one, h, List.foldl_append]; rfl
theorem fsum_bd {l : List Gap} (hb : ∀ g ∈ l, 0 ≤ g.2 ∧ g.2 ≤ 16777216) : ∀ k, k ≤ l.length → 0 ≤ fsum (l.take k) ∧ fsum (l.take k) ≤ 16777216 * (k : Int)
  | 0, _ => by simp [fsum]
  | k + 1, h => by
    have hk : k < l.length := by omega
    have ih := fsum_bd hb k (by omega)
    have := hb _ (List.getElem_mem hk)
    rw [fsum_step l k l[k].1 l[k].2 (List.getElem?_eq_getElem hk)]
    omega
def FreeS (w : World) (a b er : Int) (e : Ending) (w' : World) : Prop := e = .returned (.tuple #[.int .i64 a, .int .i64 b, .int .i64 er]) ∧ Below w.heap.size w w'
def freeR (t : Int) (l : List Gap) : Int × Int × Int := if checkE t l ≠ 0 then (0, 0, checkE t l) else (fsum l, fgreat l, 0)
set_option maxHeartbeats 800000 in
theorem Free_any (t : Int) (A : Option Addr) (n c : Nat) (l : List Gap) (w : World) (hl : l.length = n) (hn : n ≤ maxLen) (hA : Rd w w.heap.size A (cells l)) :
    Calls Try.prog 49 #[.int .i64 t, .slice A n c] w (FreeS w (freeR t l).1 (freeR t l).2.1 (freeR t l).2.2) := by
  have HC := Lib.hid (check_any t A n c l w hl hn hA)
  by_cases hce : checkE t l = 0
  · rw [hce] at HC
    obtain ⟨ht, hlen, hchk⟩ := checkE_zero hce
    obtain ⟨t0, t1, -⟩ := okTotal_bd ht
    rw [show freeR t l = (fsum l, fgreat l, 0) from by unfold freeR; rw [if_neg (by simp [hce])]]
    have HB : Hid (∀ g ∈ l, 0 ≤ g.2 ∧ g.2 ≤ 16777216) := Lib.hid (fun g hgl => by
      have := grain_bd (chk_bounds hchk g hgl)
      omega)
    have HA := Lib.hid hA
    have Hl := Lib.hid hl
    have hn4 : n ≤ 4096 := by omega
    clear hce ht hlen hchk hA hl
    go_enter Try.func49, Try.ntmps49
    go_wp2_with (go_at_call 39; refine HC.out.mono ?_; rintro e w1 ⟨rfl, hb1⟩)
    go_loopw [8, 9, 20] (fun s g i wr => ∃ k : Nat, k ≤ n ∧ i = .int .i64 k ∧ s = .int .i64 (fsum (l.take k)) ∧ g = .int .i64 (fgreat (l.take k)) ∧ Below w.heap.size w wr) (fun _ _ i _ => n - (intOf i).toNat)
    case atStart => exact ⟨0, by omega, rfl, rfl, rfl, hb1⟩
    case round =>
      obtain ⟨k, hk, rfl, rfl, rfl, hb⟩ := hrel
      by_cases hlt : k < n
      · obtain ⟨ad, p, x1, x2, rfl, hxk, hp, -, a1, a2⟩ := rd_at (HA.out.below hb) (k := k) (by rw [Hl.out]; exact hlt)
        obtain ⟨xb1, xb2⟩ := HB.out (x1, x2) (List.mem_of_getElem? hxk)
        simp only at xb1 xb2
        obtain ⟨s1, s2⟩ := fsum_bd HB.out k (by rw [Hl.out]; omega)
        have HS := Lib.hid (fsum_step l k x1 x2 hxk)
        have HG := Lib.hid (fgreat_step l k x1 x2 hxk)
        generalize fsum (l.take k) = S at *
        generalize fgreat (l.take k) = T at *
        clear hxk
        have HM : Hid (max T x2 = if T < x2 then x2 else T) := Lib.hid (by split <;> omega)
        go_wp2_with fail
        go_roundw
        case rel => exact ⟨k + 1, by omega, by go_num, by rw [HS.out], by rw [HG.out, HM.out], hb.alloc hb.size _⟩
        case measure => simp [intOf]; omega
      · obtain rfl : k = n := by omega
        have Hf : Hid (l.take k = l) := Lib.hid (List.take_of_length_le (by rw [Hl.out]; omega))
        go_wp2_with fail
        go_ret3
        refine ⟨?_, hb⟩
        rw [Hf.out]
        rfl
  · rw [show freeR t l = (0, 0, checkE t l) from by unfold freeR; rw [if_pos (by simpa using hce)]]
    have hb : (checkE t l != 0) = true := by simp [hce]
    generalize checkE t l = ce at *
    clear hce hA hl
    go_enter Try.func49, Try.ntmps49
    go_wp2_with (go_at_call 39; refine HC.out.mono ?_; rintro e w1 ⟨rfl, hb1⟩)
    go_ret3
    exact ⟨rfl, hb1⟩
set_option maxHeartbeats 800000 in
theorem rFree_any (t : Int) (A : Option Addr) (n c : Nat) (l : List Gap) (w : World) (hl : l.length = n) (hn : n ≤ maxLen) (hA : Rd w w.heap.size A (cells l)) :
    Calls Try.prog 50 #[.int .i64 t, .slice A n c] w (FreeS w (freeR t l).1 (freeR t l).2.1 (freeR t l).2.2) := by
  have HC := Lib.hid (rcheck_any t A n c l w hl hn hA)
  by_cases hce : checkE t l = 0
  · rw [hce] at HC
    obtain ⟨ht, hlen, hchk⟩ := checkE_zero hce
    obtain ⟨t0, t1, -⟩ := okTotal_bd ht
    rw [show freeR t l = (fsum l, fgreat l, 0) from by unfold freeR; rw [if_neg (by simp [hce])]]
    have HB : Hid (∀ g ∈ l, 0 ≤ g.2 ∧ g.2 ≤ 16777216) := Lib.hid (fun g hgl => by
      have := grain_bd (chk_bounds hchk g hgl)
      omega)
    have HA := Lib.hid hA
    have Hl := Lib.hid hl
    have hn4 : n ≤ 4096 := by omega
    clear hce ht hlen hchk hA hl
    go_enter Try.func50, Try.ntmps50
    go_wp2_with (go_at_call 40; refine HC.out.mono ?_; rintro e w1 ⟨rfl, hb1⟩)
    go_loopw [8, 9, 10] (fun s g i wr => ∃ k : Nat, k ≤ n ∧ i = .int .i64 k ∧ s = .int .i64 (fsum (l.take k)) ∧ g = .int .i64 (fgreat (l.take k)) ∧ Below w.heap.size w wr) (fun _ _ i _ => n - (intOf i).toNat)
    case atStart => exact ⟨0, by omega, rfl, rfl, rfl, hb1⟩
    case round =>
      obtain ⟨k, hk, rfl, rfl, rfl, hb⟩ := hrel
      by_cases hlt : k < n
      · obtain ⟨ad, p, x1, x2, rfl, hxk, hp, -, a1, a2⟩ := rd_at (HA.out.below hb) (k := k) (by rw [Hl.out]; exact hlt)
        obtain ⟨xb1, xb2⟩ := HB.out (x1, x2) (List.mem_of_getElem? hxk)
        simp only at xb1 xb2
        obtain ⟨s1, s2⟩ := fsum_bd HB.out k (by rw [Hl.out]; omega)
        have HS := Lib.hid (fsum_step l k x1 x2 hxk)
        have HG := Lib.hid (fgreat_step l k x1 x2 hxk)
        generalize fsum (l.take k) = S at *
        generalize fgreat (l.take k) = T at *
        clear hxk
        have HM : Hid (max T x2 = if T < x2 then x2 else T) := Lib.hid (by split <;> omega)
        go_wp2_with fail
        go_roundw
        case rel => exact ⟨k + 1, by omega, by go_num, by rw [HS.out], by rw [HG.out, HM.out], hb⟩
        case measure => simp [intOf]; omega
      · obtain rfl : k = n := by omega
        have Hf : Hid (l.take k = l) := Lib.hid (List.take_of_length_le (by rw [Hl.out]; omega))
        go_wp2_with fail
        go_ret3
        refine ⟨?_, hb⟩
        rw [Hf.out]
        rfl
  · rw [show freeR t l = (0, 0, checkE t l) from by unfold freeR; rw [if_pos (by simpa using hce)]]
    have hb : (checkE t l != 0) = true := by simp [hce]
    generalize checkE t l = ce at *
    clear hce hA hl
    go_enter Try.func50, Try.ntmps50
    go_wp2_with (go_at_call 40; refine HC.out.mono ?_; rintro e w1 ⟨rfl, hb1⟩)
    go_ret3
    exact ⟨rfl, hb1⟩
/-! ### what is taken -/
def tk (l : List Gap) : Nat → Int × List Gap
  | 0 => (0, [])
  | k + 1 => ((l.getD k (0, 0)).1 + (l.getD k (0, 0)).2, if (tk l k).1 < (l.getD k (0, 0)).1 then (tk l k).2 ++ [((tk l k).1, (l.getD k (0, 0)).1 - (tk l k).1)] else (tk l k).2)
def takenR (t : Int) (l : List Gap) : List Gap := if (tk l l.length).1 < t then (tk l l.length).2 ++ [((tk l l.length).1, t - (tk l l.length).1)] else (tk l l.length).2
def takenB (t : Int) (l : List Gap) : List Gap × Int := if checkE t l ≠ 0 then ([], checkE t l) else (takenR t l, 0)
theorem tk_step (l : List Gap) (k : Nat) (x1 x2 : Int) (h : l[k]? = some (x1, x2)) : tk l (k + 1) = (x1 + x2, if (tk l k).1 < x1 then (tk l k).2 ++ [((tk l k).1, x1 - (tk l k).1)] else (tk l k).2) := by
  have e : l.getD k (0, 0) = (x1, x2) := by simp [List.getD, h]
  rw [tk, e]
theorem tk_len (l : List Gap) : ∀ k, (tk l k).2.length ≤ k
  | 0 => Nat.le_refl _
  | k + 1 => by
    have := tk_len l k
    rw [tk]
    simp only
    split
    · rw [List.length_append]; simp; omega
    · omega
theorem tk_bd {l : List Gap} (hb : ∀ g ∈ l, 0 ≤ g.1 ∧ g.1 ≤ 16777216 ∧ 0 ≤ g.2 ∧ g.2 ≤ 16777216) : ∀ k, k ≤ l.length → 0 ≤ (tk l k).1 ∧ (tk l k).1 ≤ 33554432
  | 0, _ => by simp [tk]
  | k + 1, h => by
    have hk : k < l.length := by omega
    have := hb _ (List.getElem_mem hk)
    rw [tk_step l k l[k].1 l[k].2 (List.getElem?_eq_getElem hk)]
    simp only
    omega
theorem tk_app (l : List Gap) (g : Gap) : ∀ k, k ≤ l.length → tk (l ++ [g]) k = tk l k
  | 0, _ => rfl
  | k + 1, h => by
    have hk : k < l.length := by omega
    have e : (l ++ [g]).getD k (0, 0) = l.getD k (0, 0) := by simp [List.getD, List.getElem?_append_left hk]
    rw [tk, tk, tk_app l g k (by omega), e]
theorem tk_all (t : Int) (l : List Gap) : (tk (l ++ [(t, 0)]) (l.length + 1)).2 = takenR t l := by
  rw [tk_step _ l.length t 0 (by simp), tk_app _ _ _ (Nat.le_refl _)]
  rfl
theorem rd_new3 (w : World) (o : Obj) (x y : Int) : Rd ((w.alloc o).alloc (.cells #[.int .i64 x, .int .i64 y] 47)) (w.heap.size + 2) (some ⟨w.heap.size + 1, 0, none⟩) (cells [(x, y)]) := by
  have h := rd_new (w.alloc o) x y
  simpa using h
set_option maxRecDepth 100000 in
set_option maxHeartbeats 1600000 in
theorem Taken_any (t : Int) (A : Option Addr) (n c : Nat) (l : List Gap) (w : World) (hl : l.length = n) (hn : n ≤ maxLen) (hA : Rd w w.heap.size A (cells l)) :
    Calls Try.prog 51 #[.int .i64 t, .slice A n c] w (GiveS w (takenB t l).1 (takenB t l).2) := by
  have HC := Lib.hid (check_any t A n c l w hl hn hA)
  by_cases hce : checkE t l = 0
  · rw [hce] at HC
    obtain ⟨ht, hlen, hchk⟩ := checkE_zero hce
    obtain ⟨t0, t1, -⟩ := okTotal_bd ht
    rw [show takenB t l = (takenR t l, 0) from by unfold takenB; rw [if_neg (by simp [hce])]]
    have HB : Hid (∀ g ∈ l ++ [(t, (0 : Int))], 0 ≤ g.1 ∧ g.1 ≤ 16777216 ∧ 0 ≤ g.2 ∧ g.2 ≤ 16777216) := Lib.hid (fun g hgl => by
      rcases List.mem_append.1 hgl with h | h
      · have := grain_bd (chk_bounds hchk g h)
        omega
      · have : g = (t, 0) := by simpa using h
        subst this
        simp only
        omega)
    have HA : Hid (∀ W : World, Below w.heap.size w W → Rd W W.heap.size A (cells l)) := Lib.hid (fun W hb => (hA.below hb).more hb.size)
    have Hl := Lib.hid hl
    have hn4 : n ≤ 4096 := by omega
    have Hall := Lib.hid (tk_all t l)
    obtain ⟨i0, hi, hz0, hz1, hz2⟩ := info_parts info47
    have HLl : Hid ((l ++ [(t, (0 : Int))]).length = n + 1) := Lib.hid (by rw [List.length_append, hl]; rfl)
    rw [Hl.out] at Hall
    generalize takenR t l = R at *
    clear hce ht hlen hchk hA hl
    go_enter Try.func51, Try.ntmps51
    go_wp2_with (first
      | (go_at_call 39; refine HC.out.mono ?_; rintro e w1 ⟨rfl, hb1⟩)
      | (go_at_call 67; refine (clone_s A n c l _ Hl.out (by omega) (HA.out _ hb1)).mono ?_; rintro e w2 ⟨A2, c2, rfl, hk2, hm2, hown2, hb2⟩; have hs2 := hb2.size)
      | (at_builtin; refine wpList_append_rs _ rfl (.tmp 18) (.tmp 21) 39 rfl w1.heap.size 47 i0 _ 2 16 Try.underlying39 hi hz0 hz1 hz2 rfl (by omega) (.slice A2 n c2) n (cells l) rfl (World.ownsRow.alloc hown2 _) _ (some ⟨w2.heap.size, 0, none⟩) 1 1 (cells [(t, 0)]) rfl rfl (rd_new w2 _ _) (cells_one _) (by simp only [maxLen]; omega) (by omega) (by simp; omega) ?_; intro A3 c3 w3 hk3 hm3 hown3 hg3 hat3; have hs3 := hg3.size; simp at hs3))
    have b1 : Below w.heap.size w w1 := hb1
    have b3 : Below w.heap.size w w3 := ((b1.trans (hb2.mono b1.size)).alloc (by have := b1.size; omega) _).grown hg3 (by have := b1.size; simp; omega) (fun g hg => by have := (hown2.lt g hg).1; have := b1.size; omega)
    have HL := Lib.hid (rd_later hown3)
    rw [← cells_append] at HL
    have B3 := Lib.hid b3
    clear hown2 hown3 hg3 hat3 hb2 b1 b3
    generalize hLL : l ++ [(t, (0 : Int))] = L at *
    clear hLL
    go_loopw [7, 8, 24] (fun o a i wr => ∃ (k : Nat) (A' : Option Addr) (c' : Nat), k ≤ n + 1 ∧ i = .int .i64 k ∧ a = .int .i64 (tk L k).1 ∧ o = .slice A' (tk L k).2.length c' ∧ (tk L k).2.length ≤ c' ∧ c' ≤ maxLen ∧
      wr.ownsRow w3.heap.size 47 2 (.slice A' (tk L k).2.length c') (tk L k).2.length (cells (tk L k).2) ∧ Below w3.heap.size w3 wr) (fun _ _ i _ => n + 1 - (intOf i).toNat)
    case atStart => exact ⟨0, none, 0, by omega, rfl, rfl, rfl, Nat.le_refl _, by simp [maxLen], World.ownsRow_nil _ _ _ _, Below.refl _ _⟩
    case round =>
      obtain ⟨k, A', c', hk, rfl, rfl, rfl, hk1, hm1, hown, hb⟩ := hrel
      have hsz := hb.size
      by_cases hlt : k < n + 1
      · obtain ⟨ad, p, x1, x2, hadd, hxk, hp, -, a1, a2⟩ := rd_at (HL.out wr hb) (k := k) (by rw [HLl.out]; exact hlt)
        subst hadd
        obtain ⟨xb1, xb2, xb3, xb4⟩ := HB.out (x1, x2) (List.mem_of_getElem? hxk)
        simp only at xb1 xb2 xb3 xb4
        obtain ⟨s1, s2⟩ := tk_bd HB.out k (by rw [HLl.out]; omega)
        have hl4 := tk_len L k
        have HS := Lib.hid (tk_step L k x1 x2 hxk)
        generalize tk L k = T at *
        obtain ⟨T1, T2⟩ := T
        simp only at HS s1 s2 hl4 hk1 hm1 hown ⊢
        clear hxk
        have Ho := Lib.hid hown
        clear hown
        by_cases hgt : T1 < x1
        · have HS2 : Hid (tk L (k + 1) = (x1 + x2, T2 ++ [(T1, x1 - T1)])) := Lib.hid (by rw [HS.out, if_pos hgt])
          have Hlt := Ho.out.lt
          go_wp2_with (at_builtin; refine wpList_append_rs _ rfl (.tmp 32) (.tmp 39) 39 rfl w3.heap.size 47 i0 _ 2 16 Try.underlying39 hi hz0 hz1 hz2 rfl (by omega) (.slice A' T2.length c') T2.length (cells T2) rfl ((Ho.out.alloc _).alloc _) _ (some ⟨wr.heap.size + 1, 0, none⟩) 1 1 (cells [(T1, x1 - T1)]) rfl rfl (rd_new3 wr _ _ _) (cells_one _) (by simp only [maxLen]; omega) (by omega) (by simp; omega) ?_; intro A4 c4 w4 hk4 hm4 hown4 hg4 hat4; have hs4 := hg4.size; simp at hs4; have k0 : w4.cell? ⟨wr.heap.size, 0, none⟩ = some (.int .i64 x1) := (World.cell?_of_block (hg4.block wr.heap.size (by simp; omega) (fun e => absurd (Hlt _ e.symm).2 (Nat.lt_irrefl _)))).trans (ca (cn wr #[.int .i64 x1, .int .i64 x2] 47 0) _); have k1 : w4.cell? ⟨wr.heap.size, 1, none⟩ = some (.int .i64 x2) := (World.cell?_of_block (hg4.block wr.heap.size (by simp; omega) (fun e => absurd (Hlt _ e.symm).2 (Nat.lt_irrefl _)))).trans (ca (cn wr #[.int .i64 x1, .int .i64 x2] 47 1) _))
          go_roundw
          case rel =>
            refine ⟨k + 1, A4, c4, by omega, by go_num, by rw [HS2.out], ?_⟩
            rw [HS2.out]
            simp only [List.length_append, List.length_cons, List.length_nil, Nat.zero_add]
            rw [cells_append]
            exact ⟨trivial, hk4, hm4, hown4, ((hb.alloc hsz _).alloc (by simp; omega) _).grown hg4 (by simp; omega) (fun g hg => (Hlt g hg).1)⟩
          case measure => simp [intOf]; omega
        · have HS2 : Hid (tk L (k + 1) = (x1 + x2, T2)) := Lib.hid (by rw [HS.out, if_neg hgt])
          go_wp2_with fail
          go_roundw
          case rel =>
            refine ⟨k + 1, A', c', by omega, by go_num, by rw [HS2.out], ?_⟩
            rw [HS2.out]
            exact ⟨rfl, hk1, hm1, Ho.out.alloc _, hb.alloc hsz _⟩
          case measure => simp [intOf]; omega
      · obtain rfl : k = n + 1 := by omega
        have HR := Hall.out
        go_wp2_with fail
        go_ret2
        rw [← Hall.out]
        exact ⟨A', c', rfl, hk1, hm1, own_base hown B3.out.size, B3.out.trans (hb.mono B3.out.size)⟩
  · rw [show takenB t l = ([], checkE t l) from by unfold takenB; rw [if_pos (by simpa using hce)]]
    have hb : (checkE t l != 0) = true := by simp [hce]
    generalize checkE t l = ce at *
    clear hce hA hl
    go_enter Try.func51, Try.ntmps51
    go_wp2_with (go_at_call 39; refine HC.out.mono ?_; rintro e w1 ⟨rfl, hb1⟩)
    go_ret2
    exact nil_give _ _ _ hb1
end Go.Proofs.Ytinjfmcmjhehoaa.gaps
