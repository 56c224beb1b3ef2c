/-
  Contracts of Take (package gap and reference): both answer takeA, whatever the list. No condition but that a list is as long as a list can be.
-/
import Derived.Test.YtinjfmcmjhehoaaGapD
namespace Go.Proofs.Ytinjfmcmjhehoaa.gaps
open Go.ChangeShapes Go.WideShapes Go.ChangeAt Go.RowKit
open M G
set_option linter.unusedVariables false
def TakeRes (w : World) (r : List Gap × Int × Int) (e : Ending) (w' : World) : Prop :=
  ∃ v, e = .returned (.tuple #[v, .int .i64 r.2.1, .int .i64 r.2.2]) ∧ w'.ownsRow w.heap.size 47 2 v r.1.length (cells r.1) ∧ Below w.heap.size w w'
theorem nil_take (w w' : World) (a er : Int) (hb : Below w.heap.size w w') : TakeRes w ([], a, er) (.returned (.tuple #[.slice none 0 0, .int .i64 a, .int .i64 er])) w' :=
  ⟨_, rfl, World.ownsRow_nil _ _ _ _, hb⟩
theorem checkE_zero {t : Int} {l : List Gap} (h : checkE t l = 0) : okTotal t = true ∧ l.length ≤ 4096 ∧ chk t (-1) l = true := by
  unfold checkE at h
  split at h
  · rename_i h1
    split at h
    · cases h
    · split at h
      · rename_i h2 h3; exact ⟨h1, by omega, h3⟩
      · cases h
  · cases h
theorem first_le (l : List Gap) (m : Int) : first l m ≤ l.length := List.findIdx_le_length
set_option maxHeartbeats 400000 in
theorem Take_any (t : Int) (A : Option Addr) (n c : Nat) (l : List Gap) (s : Int) (w : World) (hl : l.length = n) (hn : n ≤ maxLen) (hc : n ≤ c) (hA : Rd w w.heap.size A (cells l)) :
    Calls Try.prog 41 #[.int .i64 t, .slice A n c, .int .i64 s] w (TakeRes w (takeA t l s)) := by
  have HC := Lib.hid (check_any t A n c l w hl hn hA)
  by_cases hce : checkE t l = 0
  · rw [hce] at HC
    obtain ⟨ht, hlen, hchk⟩ := checkE_zero hce
    obtain ⟨t0, t1, -⟩ := okTotal_bd ht
    by_cases hs : s < 1 ∨ 16777216 < s
    · rw [show takeA t l s = ([], 0, 1) from by
        unfold takeA; rw [if_neg (by simp [hce]), if_neg (by simp [sizeOk]; omega)]]
      have HS := Lib.hid (fun W => size_no s W hs)
      clear hce hs hA hchk ht hl
      go_enter Try.func41, Try.ntmps41
      go_wp2_with (first
        | (go_at_call 39; refine HC.out.mono ?_; rintro e w1 ⟨rfl, hb1⟩)
        | (go_at_call 56; refine (HS.out _).mono ?_; rintro e w2 ⟨rfl, rfl⟩))
      go_ret3
      exact nil_take _ _ _ _ hb1
    · have hs1 : 1 ≤ s := by omega
      have hs2 : s ≤ 16777216 := by omega
      obtain ⟨u1, u2, -, -⟩ := up_bd s hs1 hs2
      have HS := Lib.hid (fun W => size_yes s W hs1 hs2)
      by_cases hf : first l (up s) < l.length
      · have hx : l[first l (up s)]? = some (l[first l (up s)]'hf) := List.getElem?_eq_getElem hf
        have hg := grain_bd (chk_bounds hchk _ (List.getElem_mem hf))
        rw [show takeA t l s = (takeL l (up s) (first l (up s)), (l[first l (up s)]'hf).1, 0) from by
          unfold takeA; rw [if_neg (by simp [hce]), if_pos (by simp [sizeOk]; omega), if_pos hf]; simp [List.getD, hx]]
        have HT : Hid (∀ W : World, Below w.heap.size w W → Calls Try.prog 57 #[.slice A n c, .int .i64 (up s)] W fun e w' => ∃ v, e = .returned (.tuple #[v, .int .i64 (l[first l (up s)]'hf).1]) ∧ w'.ownsRow W.heap.size 47 2 v (takeL l (up s) (first l (up s))).length (cells (takeL l (up s) (first l (up s)))) ∧ Below W.heap.size W w') := Lib.hid (fun W hb =>
          take_yes A n c l (up s) W hl (by omega) hc ((hA.below hb).more hb.size) _ rfl (by omega) (l[first l (up s)]'hf).1 (l[first l (up s)]'hf).2 hx (by omega) (by omega) hg.1 (by omega) (by omega))
        have hx1 : 0 ≤ (l[first l (up s)]'hf).1 := hg.1
        generalize takeL l (up s) (first l (up s)) = r at HT ⊢
        generalize (l[first l (up s)]'hf).1 = x at HT hx1 ⊢
        generalize up s = m at *
        clear hce hs hA hchk ht hl hf hx hg
        go_enter Try.func41, Try.ntmps41
        go_wp2_with (first
          | (go_at_call 39; refine HC.out.mono ?_; rintro e w1 ⟨rfl, hb1⟩)
          | (go_at_call 56; refine (HS.out _).mono ?_; rintro e w2 ⟨rfl, rfl⟩)
          | (go_at_call 57; refine (HT.out _ hb1).mono ?_; rintro e w3 ⟨v, rfl, hown, hb3⟩))
        go_ret3
        exact ⟨v, rfl, own_base hown hb1.size, hb1.trans (hb3.mono hb1.size)⟩
      · rw [show takeA t l s = ([], 0, 4) from by
          unfold takeA; rw [if_neg (by simp [hce]), if_pos (by simp [sizeOk]; omega), if_neg hf]]
        have HT : Hid (∀ W : World, Below w.heap.size w W → Calls Try.prog 57 #[.slice A n c, .int .i64 (up s)] W fun e w' => e = .returned (.tuple #[.slice none 0 0, .int .i64 (-1)]) ∧ Below W.heap.size W w') := Lib.hid (fun W hb =>
          take_no A n c l (up s) W hl (by omega) ((hA.below hb).more hb.size) (by have := first_le l (up s); omega))
        generalize up s = m at *
        clear hce hs hA hchk ht hl hf
        go_enter Try.func41, Try.ntmps41
        go_wp2_with (first
          | (go_at_call 39; refine HC.out.mono ?_; rintro e w1 ⟨rfl, hb1⟩)
          | (go_at_call 56; refine (HS.out _).mono ?_; rintro e w2 ⟨rfl, rfl⟩)
          | (go_at_call 57; refine (HT.out _ hb1).mono ?_; rintro e w3 ⟨rfl, hb3⟩))
        go_ret3
        exact nil_take _ _ _ _ (hb1.trans (hb3.mono hb1.size))
  · rw [show takeA t l s = ([], 0, checkE t l) from by unfold takeA; rw [if_pos (by simpa using hce)]]
    have hb : (checkE t l != 0) = true := by simp [hce]
    generalize checkE t l = ce at *
    clear hce hA hl
    go_enter Try.func41, Try.ntmps41
    go_wp2_with (go_at_call 39; refine HC.out.mono ?_; rintro e w1 ⟨rfl, hb1⟩)
    go_ret3
    exact nil_take _ _ _ _ hb1
theorem lit_block {B n c g : Nat} (h : Value.ownBlock (.slice (some ⟨B, 0, none⟩) n c) = some g) : B = g := by simpa [Value.ownBlock] using h
theorem first_lt {l : List Gap} {m : Int} {k : Nat} {x : Gap} (h : k < first l m) (hx : l[k]? = some x) : x.2 < m := by
  have h1 := List.not_of_lt_findIdx h
  rw [(List.getElem?_eq_some_iff.1 hx).2] at h1
  simpa using h1
theorem first_ge {l : List Gap} {m : Int} {x : Gap} (hx : l[first l m]? = some x) : m ≤ x.2 := by
  have hk : first l m < l.length := (List.getElem?_eq_some_iff.1 hx).1
  have h2 := List.findIdx_getElem (p := fun g : Gap => decide (m ≤ g.2)) (xs := l) (w := hk)
  have h3 : l[l.findIdx (fun g : Gap => decide (m ≤ g.2))]'hk = x := (List.getElem?_eq_some_iff.1 hx).2
  rw [h3] at h2
  simpa using h2
set_option maxHeartbeats 1600000 in
theorem rTake_found (t : Int) (A : Option Addr) (n c : Nat) (l : List Gap) (s m : Int) (w : World) (hl : l.length = n) (hn : n ≤ 4096) (hc : n ≤ c) (hcm : c ≤ maxLen) (hA : Rd w w.heap.size A (cells l))
    (HC : Hid (Calls Try.prog 40 #[.int .i64 t, .slice A n c] w fun e w' => e = .returned (.int .i64 0) ∧ Below w.heap.size w w'))
    (hs1 : 1 ≤ s) (hs2 : s ≤ 16777216) (HS : Hid (∀ W, Calls Try.prog 58 #[.int .i64 s] W fun e w' => e = .returned (.int .i64 m) ∧ W = w'))
    (k : Nat) (hf : first l m = k) (hk : k < n) (x1 x2 : Int) (hx : l[k]? = some (x1, x2)) (hm : 0 < m) (hm2 : m ≤ 16777216) (b1 : 0 ≤ x1) (b2 : x1 ≤ 16777216) (b3 : x2 ≤ 16777216) :
    Calls Try.prog 42 #[.int .i64 t, .slice A n c, .int .i64 s] w (TakeRes w (takeL l m k, x1, 0)) := by
  unfold maxLen at hcm
  obtain ⟨ad, q, y1, y2, rfl, hxk, hp, hqb, a1, a2⟩ := rd_at hA (k := k) (by rw [hl]; exact hk)
  have hxy : x1 = y1 ∧ x2 = y2 := by rw [hx] at hxk; injection hxk with h; injection h with h1 h2; exact ⟨h1, h2⟩
  obtain ⟨rfl, rfl⟩ := hxy
  have HA := Lib.hid hA
  have HT : Hid (∀ W : World, Below w.heap.size w W → Rd W W.heap.size (some ad) (cells (l.take k))) := Lib.hid (fun W hb => by
    rw [cells_take]; exact ((hA.below hb).take _).more (by have := hb.size; omega))
  have HD : Hid (∀ W : World, Below w.heap.size w W → Rd W W.heap.size (if c = k + 1 then some ad else some (ad.add ((k + 1) * 2))) (cells (l.drop (k + 1)))) := Lib.hid (fun W hb => by
    split
    · rw [List.drop_eq_nil_of_le (by omega)]; exact Rd.nil
    · rw [cells_drop]; exact ((hA.below hb).drop _).more (by have := hb.size; omega))
  have HtL : Hid ((l.take k).length = k) := Lib.hid (by rw [List.length_take, hl]; omega)
  have HdL : Hid ((l.drop (k + 1)).length = n - (k + 1)) := Lib.hid (by rw [List.length_drop, hl])
  have Hlk : Hid (l.getD k (0, 0) = (x1, x2)) := Lib.hid (by simp [List.getD, hx])
  obtain ⟨i0, hi, hz0, hz1, hz2⟩ := info_parts info47
  have Hfx : Hid (m ≤ x2) := Lib.hid (by subst hf; exact first_ge hx)
  have Hf := Lib.hid hf
  have Hl := Lib.hid hl
  have Hp := Lib.hid hp
  clear hl hA hf hx hxk hp
  go_enter Try.func42, Try.ntmps42
  go_wp2_with (first
    | (go_at_call 40; refine HC.out.mono ?_; rintro e w1 ⟨rfl, hb1⟩)
    | (go_at_call 58; refine (HS.out _).mono ?_; rintro e w2 ⟨rfl, rfl⟩))
  go_loop [11] (fun i => ∃ j : Nat, j ≤ k ∧ i = .int .i64 j) (fun i => n - (intOf i).toNat)
  case atStart => exact ⟨0, by omega, rfl⟩
  case round =>
    obtain ⟨j, hj, rfl⟩ := hrel
    by_cases hlt : j < k
    · have hjn : j < n := by omega
      obtain ⟨ad', p, y1, y2, had, hyk, hp', hpb, c1, c2⟩ := rd_at (HA.out.below hb1) (k := j) (by rw [Hl.out]; exact hjn)
      injection had with had
      subst had
      have Hyk : Hid (y2 < m) := Lib.hid (first_lt (by rw [Hf.out]; exact hlt) hyk)
      have hy := Hyk.out
      clear hyk
      go_wp2_with fail
      go_round
      case rel => exact ⟨j + 1, by omega, by go_num⟩
      case measure => simp [intOf]; omega
    · obtain rfl : j = k := by omega
      have hp := Hp.out
      have hfx := Hfx.out
      have hs1 := hb1.size
      have d1 := cv hb1 a1 hqb
      have d2 := cv hb1 a2 hqb
      by_cases hgt : m < x2
      · have Hfin : Hid (∀ (W : World) (v : Value), W.ownsRow w.heap.size 47 2 v (0 + j + 1 + (n - (j + 1))) (([] ++ cells (l.take j) ++ cells [(x1 + m, x2 - m)]) ++ cells (l.drop (j + 1))) → W.ownsRow w.heap.size 47 2 v (takeL l m j).length (cells (takeL l m j))) := Lib.hid (fun W v h => by
          have e : takeL l m j = (l.take j ++ [(x1 + m, x2 - m)]) ++ l.drop (j + 1) := by
            unfold takeL left
            rw [Hlk.out]
            simp only
            rw [if_pos hgt]
          rw [e, cells_append, cells_append]
          have e2 : ((l.take j ++ [(x1 + m, x2 - m)]) ++ l.drop (j + 1)).length = 0 + j + 1 + (n - (j + 1)) := by
            rw [List.length_append, List.length_append, HtL.out, HdL.out, Nat.zero_add]; rfl
          rw [e2]
          exact h)
        go_wp2_with (first
          | (at_builtin; refine wpList_append_rd _ rfl (.tmp 40) (.tmp 43) 39 rfl w.heap.size 47 i0 _ 2 16 Try.underlying39 hi hz0 hz1 hz2 rfl (by omega) (.slice (some ⟨w1.heap.size, 0, none⟩) 0 0) 0 [] rfl (own_empty w1 _ hs1) _ (some ad) j c (cells (l.take j)) rfl (by rw [cells_length, HtL.out]) (HT.out _ (hb1.alloc hs1 _)) (cells_one _) (by simp only [maxLen]; omega) (by omega) (by simp; omega) ?_; intro v2 w2 hown2 hg2 hat2; have hs2 := hg2.size; simp at hs2; have bw2 : Below (w1.heap.size) w1 w2 := ((Below.refl _ _).alloc (Nat.le_refl _) _).grown hg2 (by simp) (fun g hg => Nat.le_of_eq (lit_block hg)); have e1 := cv bw2 d1 (by omega); have e2 := cv bw2 d2 (show q.block < _ by omega)))
        have hv2 : ∀ g, v2.ownBlock = some g → w1.heap.size ≤ g := fun g hg => by
          rcases hat2 with e | e
          · rw [e] at hg; exact Nat.le_of_eq (lit_block hg)
          · rw [e] at hg; injection hg with hg; simp at hg; omega
        have Hv2 := Lib.hid hv2
        have bwA : Below w.heap.size w w2 := hb1.trans (bw2.mono hs1)
        have BwA := Lib.hid bwA
        have k0 : (0 : Int) ≤ j := by omega
        have k1 : (j : Int) < n := by omega
        have k2 : IntKind.i64.wrap (x1 + m) = x1 + m := by rw [IntKind.wrap_i64]; omega
        have k3 : IntKind.i64.wrap (x2 - m) = x2 - m := by rw [IntKind.wrap_i64]; omega
        have kj : ((j : Int)).toNat = j := by omega
        have A1 := Lib.hid a1
        clear hv2 hat2 hg2 bw2 d1 d2 a1 a2 bwA
        go_region_law (refine step_append_rd _ rfl (.tmp 52) (.tmp 68) 39 rfl w.heap.size 47 i0 _ 2 16 Try.underlying39 hi hz0 hz1 hz2 rfl (by omega) v2 (0 + j) ([] ++ cells (l.take j)) (by simp [Act.eval]) (by exact hown2.alloc _) _ (some ⟨w2.heap.size, 0, none⟩) 1 1 (cells [(x1 + m, x2 - m)]) (by simp [Act.eval]) rfl (by exact rd_new w2 _ _) (cells_one _) (by simp only [maxLen]; omega) (by omega) (by simp; omega) ?_; intro v3 w3 hown3 hg3 hat3)
        all_goals
          have hs3 := hg3.size
          simp at hs3
          have bw3 : Below w.heap.size w w3 := by
            first
              | exact (((BwA.out.drew).alloc (by simp; omega) _).grown hg3 (by simp; omega) (fun g hg => by have := Hv2.out g hg; omega))
              | exact ((BwA.out.alloc (by omega) _).drew).grown hg3 (by simp; omega) (fun g hg => by have := Hv2.out g hg; omega)
          have hv3 : ∀ g, v3.ownBlock = some g → w1.heap.size ≤ g := fun g hg => by
            rcases hat3 with e | e
            · rw [e] at hg; exact Hv2.out g hg
            · rw [e] at hg; injection hg with hg; simp at hg; omega
          have Hv3 := Lib.hid hv3
          have f1 := cv bw3 A1.out hqb
          have HR := Lib.hid (HD.out _ bw3)
          have BW3 := Lib.hid bw3
          have s1 : IntKind.i64.wrap ((j : Int) + 1) = (j : Int) + 1 := by rw [IntKind.wrap_i64]; omega
          have s2 : 0 ≤ (j : Int) + 1 := by omega
          have s3 : ((j : Int) + 1).toNat = j + 1 := by omega
          have s4 : (j : Int) + 1 ≤ (n : Int) := by omega
          clear hv3 hat3 hg3 bw3 e1 e2 hown2
          go_wp2
        all_goals go_region_law (refine step_append_rd _ rfl (.tmp 70) (.tmp 74) 39 rfl w.heap.size 47 i0 _ 2 16 Try.underlying39 hi hz0 hz1 hz2 rfl (by omega) v3 (0 + j + 1) ([] ++ cells (l.take j) ++ cells [(x1 + m, x2 - m)]) (by simp [Act.eval, Act.put]) (by exact hown3) w3.heap.size (if c = j + 1 then some ad else some (ad.add ((j + 1) * 2))) (n - (j + 1)) (c - (j + 1)) (cells (l.drop (j + 1))) (by simp [Act.eval, Act.put]) (by rw [cells_length, HdL.out]) (by exact HR.out) (cells_one _) (by simp only [maxLen]; omega) (by omega) (by simp; omega) ?_; intro v4 w4 hown4 hg4 hat4; have f2 : w4.cell? q = some (.int .i64 x1) := hg4.cell (show w3.drew.cell? q = _ from f1) (fun e => by have h : w1.heap.size ≤ q.block := Hv3.out _ e.symm; omega))
        all_goals go_wp2
        all_goals go_ret3
        all_goals
          refine ⟨v4, rfl, Hfin.out _ _ hown4, ?_⟩
          first
            | exact BW3.out.grown hg4 (by omega) (fun g hg => by have := Hv3.out g hg; omega)
            | exact (BW3.out.drew).grown hg4 (by simp; omega) (fun g hg => by have := Hv3.out g hg; omega)
      · have Hfin : Hid (∀ (W : World) (v : Value), W.ownsRow w.heap.size 47 2 v (0 + j + (n - (j + 1))) (([] ++ cells (l.take j)) ++ cells (l.drop (j + 1))) → W.ownsRow w.heap.size 47 2 v (takeL l m j).length (cells (takeL l m j))) := Lib.hid (fun W v h => by
          have e : takeL l m j = l.take j ++ l.drop (j + 1) := by
            unfold takeL left
            rw [Hlk.out]
            simp only
            rw [if_neg hgt, List.append_nil]
          rw [e, cells_append, List.length_append, HtL.out, HdL.out]
          rw [Nat.zero_add] at h
          exact h)
        go_wp2_with (first
          | (at_builtin; refine wpList_append_rd _ rfl (.tmp 40) (.tmp 43) 39 rfl w.heap.size 47 i0 _ 2 16 Try.underlying39 hi hz0 hz1 hz2 rfl (by omega) (.slice (some ⟨w1.heap.size, 0, none⟩) 0 0) 0 [] rfl (own_empty w1 _ hs1) _ (some ad) j c (cells (l.take j)) rfl (by rw [cells_length, HtL.out]) (HT.out _ (hb1.alloc hs1 _)) (cells_one _) (by simp only [maxLen]; omega) (by omega) (by simp; omega) ?_; intro v2 w2 hown2 hg2 hat2; have hs2 := hg2.size; simp at hs2; have bw2 : Below (w1.heap.size) w1 w2 := ((Below.refl _ _).alloc (Nat.le_refl _) _).grown hg2 (by simp) (fun g hg => Nat.le_of_eq (lit_block hg)); have e1 := cv bw2 d1 (by omega); have e2 := cv bw2 d2 (show q.block < _ by omega)))
        have hv2 : ∀ g, v2.ownBlock = some g → w1.heap.size ≤ g := fun g hg => by
          rcases hat2 with e | e
          · rw [e] at hg; exact Nat.le_of_eq (lit_block hg)
          · rw [e] at hg; injection hg with hg; simp at hg; omega
        have Hv2 := Lib.hid hv2
        have bwA : Below w.heap.size w w2 := hb1.trans (bw2.mono hs1)
        have BwA := Lib.hid bwA
        have k0 : (0 : Int) ≤ j := by omega
        have k1 : (j : Int) < n := by omega
        have k2 : IntKind.i64.wrap (x1 + m) = x1 + m := by rw [IntKind.wrap_i64]; omega
        have k3 : IntKind.i64.wrap (x2 - m) = x2 - m := by rw [IntKind.wrap_i64]; omega
        have kj : ((j : Int)).toNat = j := by omega
        have A1 := Lib.hid a1
        have f1 := e1
        have HR := Lib.hid (HD.out _ bwA)
        have s1 : IntKind.i64.wrap ((j : Int) + 1) = (j : Int) + 1 := by rw [IntKind.wrap_i64]; omega
        have s2 : 0 ≤ (j : Int) + 1 := by omega
        have s3 : ((j : Int) + 1).toNat = j + 1 := by omega
        have s4 : (j : Int) + 1 ≤ (n : Int) := by omega
        clear hv2 hat2 hg2 bw2 d1 d2 a1 a2 bwA e1 e2
        go_region_law (refine step_append_rd _ rfl (.tmp 70) (.tmp 74) 39 rfl w.heap.size 47 i0 _ 2 16 Try.underlying39 hi hz0 hz1 hz2 rfl (by omega) v2 (0 + j) ([] ++ cells (l.take j)) (by simp [Act.eval, Act.put]) (by exact hown2) w2.heap.size (if c = j + 1 then some ad else some (ad.add ((j + 1) * 2))) (n - (j + 1)) (c - (j + 1)) (cells (l.drop (j + 1))) (by simp [Act.eval, Act.put]) (by rw [cells_length, HdL.out]) (by exact HR.out) (cells_one _) (by simp only [maxLen]; omega) (by omega) (by simp; omega) ?_; intro v4 w4 hown4 hg4 hat4; have f2 : w4.cell? q = some (.int .i64 x1) := hg4.cell (show w2.drew.cell? q = _ from f1) (fun e => by have h : w1.heap.size ≤ q.block := Hv2.out _ e.symm; omega))
        all_goals go_wp2
        all_goals go_ret3
        all_goals
          refine ⟨v4, rfl, Hfin.out _ _ hown4, ?_⟩
          first
            | exact BwA.out.grown hg4 (by omega) (fun g hg => by have := Hv2.out g hg; omega)
            | exact (BwA.out.drew).grown hg4 (by simp; omega) (fun g hg => by have := Hv2.out g hg; omega)
set_option maxHeartbeats 400000 in
theorem rTake_none (t : Int) (A : Option Addr) (n c : Nat) (l : List Gap) (s m : Int) (w : World) (hl : l.length = n) (hn : n ≤ 4096) (hA : Rd w w.heap.size A (cells l))
    (HC : Hid (Calls Try.prog 40 #[.int .i64 t, .slice A n c] w fun e w' => e = .returned (.int .i64 0) ∧ Below w.heap.size w w'))
    (hs1 : 1 ≤ s) (hs2 : s ≤ 16777216) (HS : Hid (∀ W, Calls Try.prog 58 #[.int .i64 s] W fun e w' => e = .returned (.int .i64 m) ∧ W = w'))
    (hf : n ≤ first l m) :
    Calls Try.prog 42 #[.int .i64 t, .slice A n c, .int .i64 s] w (TakeRes w ([], 0, 4)) := by
  have HA := Lib.hid hA
  have Hf := Lib.hid hf
  have Hl := Lib.hid hl
  clear hl hA hf
  go_enter Try.func42, Try.ntmps42
  go_wp2_with (first
    | (go_at_call 40; refine HC.out.mono ?_; rintro e w1 ⟨rfl, hb1⟩)
    | (go_at_call 58; refine (HS.out _).mono ?_; rintro e w2 ⟨rfl, rfl⟩))
  go_loop [11] (fun i => ∃ j : Nat, j ≤ n ∧ i = .int .i64 j) (fun i => n - (intOf i).toNat)
  case atStart => exact ⟨0, by omega, rfl⟩
  case round =>
    obtain ⟨j, hj, rfl⟩ := hrel
    by_cases hlt : j < n
    · obtain ⟨ad', p, y1, y2, rfl, hyk, hp', hpb, c1, c2⟩ := rd_at (HA.out.below hb1) (k := j) (by rw [Hl.out]; exact hlt)
      have hy : y2 < m := first_lt (by have := Hf.out; omega) hyk
      clear hyk
      go_wp2_with fail
      go_round
      case rel => exact ⟨j + 1, by omega, by go_num⟩
      case measure => simp [intOf]; omega
    · obtain rfl : j = n := by omega
      go_wp2_with fail
      go_ret3
      exact nil_take _ _ _ _ hb1
theorem rTake_any (t : Int) (A : Option Addr) (n c : Nat) (l : List Gap) (s : Int) (w : World) (hl : l.length = n) (hn : n ≤ maxLen) (hc : n ≤ c) (hcm : c ≤ maxLen) (hA : Rd w w.heap.size A (cells l)) :
    Calls Try.prog 42 #[.int .i64 t, .slice A n c, .int .i64 s] w (TakeRes w (takeA t l s)) := by
  have HC := Lib.hid (rcheck_any t A n c l w hl hn hA)
  by_cases hce : checkE t l = 0
  · rw [hce] at HC
    obtain ⟨ht, hlen, hchk⟩ := checkE_zero hce
    obtain ⟨t0, t1, -⟩ := okTotal_bd ht
    by_cases hs : s < 1 ∨ 16777216 < s
    · rw [show takeA t l s = ([], 0, 1) from by
        unfold takeA; rw [if_neg (by simp [hce]), if_neg (by simp [sizeOk]; omega)]]
      clear hce hA hchk ht hl
      rcases hs with hs | hs
      · go_enter Try.func42, Try.ntmps42
        go_wp2_with (go_at_call 40; refine HC.out.mono ?_; rintro e w1 ⟨rfl, hb1⟩)
        go_ret3
        exact nil_take _ _ _ _ hb1
      · go_enter Try.func42, Try.ntmps42
        go_wp2_with (go_at_call 40; refine HC.out.mono ?_; rintro e w1 ⟨rfl, hb1⟩)
        go_ret3
        exact nil_take _ _ _ _ hb1
    · have hs1 : 1 ≤ s := by omega
      have hs2 : s ≤ 16777216 := by omega
      obtain ⟨u1, u2, -, -⟩ := up_bd s hs1 hs2
      have HS := Lib.hid (fun W => rounded_any s W hs1 hs2)
      by_cases hf : first l (up s) < l.length
      · have hx : l[first l (up s)]? = some (l[first l (up s)]'hf) := List.getElem?_eq_getElem hf
        have hg := grain_bd (chk_bounds hchk _ (List.getElem_mem hf))
        rw [show takeA t l s = (takeL l (up s) (first l (up s)), (l[first l (up s)]'hf).1, 0) from by
          unfold takeA; rw [if_neg (by simp [hce]), if_pos (by simp [sizeOk]; omega), if_pos hf]; simp [List.getD, hx]]
        exact rTake_found t A n c l s (up s) w hl (by omega) hc hcm hA HC hs1 hs2 HS _ rfl (by omega) (l[first l (up s)]'hf).1 (l[first l (up s)]'hf).2 hx (by omega) u2 hg.1 (by omega) (by omega)
      · rw [show takeA t l s = ([], 0, 4) from by
          unfold takeA; rw [if_neg (by simp [hce]), if_pos (by simp [sizeOk]; omega), if_neg hf]]
        exact rTake_none t A n c l s (up s) w hl (by omega) hA HC hs1 hs2 HS (by omega)
  · rw [show takeA t l s = ([], 0, checkE t l) from by unfold takeA; rw [if_pos (by simpa using hce)]]
    have hb : (checkE t l != 0) = true := by simp [hce]
    generalize checkE t l = ce at *
    clear hce hA hl
    go_enter Try.func42, Try.ntmps42
    go_wp2_with (go_at_call 40; refine HC.out.mono ?_; rintro e w1 ⟨rfl, hb1⟩)
    go_ret3
    exact nil_take _ _ _ _ hb1
end Go.Proofs.Ytinjfmcmjhehoaa.gaps
