/-
  The law GapDisjoint, walked where Play refuses nothing. Conditions: the list stands in memory, the total is one that New takes, no size is too great.
-/
import Derived.Test.YtinjfmcmjhehoaaGapX
namespace Go.Proofs.Ytinjfmcmjhehoaa.gaps
open Go.ChangeShapes Go.WideShapes Go.ChangeAt Go.RowKit
open M G
set_option linter.unusedVariables false
theorem cells_set2 : ∀ (l : List Gap) (j : Nat) (y1 y2 u v : Int), l[j]? = some (y1, y2) → cells (l.set j (u, v)) = ((cells l).set (j * 2) (.int .i64 u)).set (j * 2 + 1) (.int .i64 v)
  | [], j, _, _, _, _, h => by simp at h
  | g :: r, 0, _, _, _, _, _ => rfl
  | g :: r, j + 1, y1, y2, u, v, h => by
    rw [List.set_cons_succ, cells_cons, cells_cons, cells_set2 r j y1 y2 u v (by simpa using h), show (j + 1) * 2 + 1 = (j * 2 + 1) + 1 + 1 from by omega, show (j + 1) * 2 = (j * 2) + 1 + 1 from by omega]
    rfl
set_option maxRecDepth 100000 in
set_option maxHeartbeats 6400000 in
theorem law_dis_ok (t : Int) (A : Option Addr) (n c : Nat) (ns : List Int) (w : World) (hl : ns.length = n) (hreach : n * 8 ≤ 140737488351232) (hc : n ≤ c) (hcm : c ≤ maxLen) (hA : Rd w w.heap.size A (ints ns))
    (ht : okTotal t = true) (hbad : (ns.take 200).any badSize = false) (hp : playR t (ns.take 200) = ((plays t (ns.take 200)).out, (plays t (ns.take 200)).l, 0)) :
    Calls Try.prog 8 #[.int .i64 t, .slice A n c] w fun e w' => e = .returned (.bool true) ∧ Below w.heap.size w w' := by
  obtain ⟨i0, hi, hz0, hz1, hz2⟩ := info_parts info47
  have hnm : n ≤ maxLen := by unfold maxLen; omega
  obtain ⟨m, hm⟩ : ∃ m, m = min n 200 := ⟨_, rfl⟩
  obtain ⟨ms, hms⟩ : ∃ ms, ms = ns.take 200 := ⟨_, rfl⟩
  rw [← hms] at hp hbad
  have Hm : Hid (m = min n 200) := Lib.hid hm
  have hm2 : m ≤ 200 := by omega
  have Hlm : Hid (ms.length = m) := Lib.hid (by rw [hms, List.length_take]; omega)
  have HA : Hid (∀ W : World, Below w.heap.size w W → Rd W W.heap.size A (ints ms)) := Lib.hid (fun W hb => by
    have h1 := ((hA.below hb).more hb.size).take 200
    rwa [show (ints ns).take 200 = ints ms from by rw [hms, ints, ints, List.map_take]] at h1)
  clear hm hms hA hl
  have Hsz : Hid (∀ x ∈ ms, -16777216 ≤ x ∧ x ≤ 16777216) := Lib.hid (sizes_bd hbad)
  have HInv : Hid (∀ k, k ≤ m → Inv t (plays t (ms.take k)) k) := Lib.hid (fun k hk => inv_plays ht ms (fun x hx => (Hsz.out x hx).2) k (by rw [Hlm.out]; exact hk))
  have Hout : Hid (∀ k x, ms[k]? = some x → (plays t ms).out[k]? = some (ans (plays t (ms.take k)) x)) := Lib.hid (fun k x h => out_at ht (fun x hx => (Hsz.out x hx).2) h)
  have Hall : Hid (ms.take m = ms) := Lib.hid (List.take_of_length_le (by rw [Hlm.out]; exact Nat.le_refl _))
  have Holen : Hid ((plays t ms).out.length = m) := Lib.hid (by have := (HInv.out m (Nat.le_refl _)).ol; rwa [Hall.out] at this)
  have HW := Lib.hid (works_any)
  have HP : Hid (∀ W : World, Rd W W.heap.size A (ints ms) → Calls Try.prog 45 #[.int .i64 t, .slice A m c] W fun e w' => ∃ A1 c1 A2 c2, e = .returned (.tuple #[.slice A1 m c1, .slice A2 (plays t ms).l.length c2, .int .i64 0]) ∧ Rd w' w'.heap.size A1 (ints (plays t ms).out) ∧ Rd w' w'.heap.size A2 (cells (plays t ms).l) ∧ Below W.heap.size W w') :=
    Lib.hid (fun W h => by
      have := Play_any t A m c ms W Hlm.out (by simp only [maxLen]; omega) h
      rw [hp] at this
      refine this.mono ?_
      rintro e w' ⟨A1, c1, A2, c2, he, -, -, -, -, h1, h2, hb⟩
      simp only at he h1 h2
      rw [Holen.out] at he
      exact ⟨A1, c1, A2, c2, he, Rd.of_own h1, Rd.of_own h2, hb⟩)
  have HF : Hid (∀ W : World, Rd W W.heap.size A (ints ms) → Calls Try.prog 46 #[.slice A m c] W fun e w' => e = .returned (.bool true) ∧ Below W.heap.size W w') :=
    Lib.hid (fun W h => by have := fits_any A m c ms W Hlm.out (by simp only [maxLen]; omega) h; rwa [hbad] at this)
  have hl200 : (plays t ms).l.length ≤ 201 := by have := (HInv.out m (Nat.le_refl _)).ll; rw [Hall.out] at this; omega
  obtain ⟨t0, t1, t2⟩ := okTotal_bd ht
  have Hend := Lib.hid (dis_end ht (HInv.out m (Nat.le_refl _)) hm2)
  have HFr : Hid (∀ (W : World) (A' : Option Addr) (c' : Nat), Rd W W.heap.size A' (cells (plays t ms).l) → Calls Try.prog 49 #[.int .i64 t, .slice A' (plays t ms).l.length c'] W (FreeS W (fsum (plays t ms).l) (fgreat (plays t ms).l) 0)) :=
    Lib.hid (fun W A' c' h => by
      have := Free_any t A' _ c' (plays t ms).l W rfl (by simp only [maxLen]; omega) h
      have e := Hend.out.1
      rw [Hall.out] at e
      rwa [e] at this)
  have HL : Hid (∀ g ∈ (plays t ms).l, 0 ≤ g.1 ∧ g.1 ≤ 16777216 ∧ 0 ≤ g.2 ∧ g.2 ≤ 16777216) := Lib.hid (fun g hg => by
    have h := HInv.out m (Nat.le_refl _)
    rw [Hall.out] at h
    exact gaps_bd ht h hg)
  have HD : Hid (∀ g ∈ TA t ms m, ∀ o ∈ (plays t ms).l, 0 < g.2 → ¬ (o.1 < g.1 + g.2 ∧ g.1 < o.1 + o.2)) := Lib.hid (fun g hg o ho hp => by
    have h := HInv.out m (Nat.le_refl _)
    have hg' := hg
    unfold TA at hg'
    rw [Hall.out] at h hg'
    exact dis_apart h hg' ho hp)
  have HB : Hid (∀ k, k ≤ m → ∀ g ∈ TA t ms k, 0 ≤ g.1 ∧ g.1 ≤ 16777216 ∧ 0 ≤ g.2 ∧ g.2 ≤ 16777216) := Lib.hid (fun k hk g hg => held_bd ht (HInv.out k hk) hg)
  have HTl : Hid (∀ k, k ≤ m → (TA t ms k).length ≤ k) := Lib.hid (fun k hk => by have := (HInv.out k hk).tl; unfold TA; rw [heldOf_length]; exact this)
  have Ht := Lib.hid ht
  clear hp hbad ht
  unfold maxLen at hnm
  go_enter Try.func8, Try.ntmps8
  go_upto_if 22 with (first | (go_at_call 43; refine (HW.out _).mono ?_; rintro e w1 ⟨rfl, hb1⟩))
  go_cut [1] (fun s1 wc => s1 = .slice A m c ∧ wc = w1)
  case first =>
    as_aux_lemma =>
    by_cases h : 200 < n
    · have e : m = 200 := by have := Hm.out; omega
      subst e
      go_wp2_with fail
      go_meet
      case rel => exact ⟨rfl, rfl⟩
    · have e : m = n := by have := Hm.out; omega
      subst e
      go_wp2_with fail
      go_meet
      case rel => exact ⟨rfl, rfl⟩
  case rest =>
    obtain ⟨rfl, rfl⟩ := hcut
    have hmm : ((m : Int) != m) = false := by simp
    generalize hLL : (plays t ms).l = LL at *
    have HLL := Lib.hid hLL
    clear hLL
    go_wp2_with (first
      | (go_at_call 45; refine (HP.out _ (HA.out _ hb1)).mono ?_; rintro e w2 ⟨A1, c1, A2, c2, rfl, hR1, hR2, hb2⟩; have b2 : Below w.heap.size w w2 := hb1.trans (hb2.mono hb1.size))
      | (go_at_call 46; refine (HF.out _ (HA.out _ b2)).mono ?_; rintro e w3 ⟨rfl, hb3⟩; have b3 : Below w.heap.size w w3 := b2.trans (hb3.mono b2.size)))
    have HR1 : Hid (∀ W, Below w3.heap.size w3 W → Rd W W.heap.size A1 (ints (plays t ms).out)) := Lib.hid (fun W hb => (((hR1.below hb3).more hb3.size).below hb).more hb.size)
    have HR2 : Hid (∀ W, Below w3.heap.size w3 W → Rd W W.heap.size A2 (cells LL)) := Lib.hid (fun W hb => (((hR2.below hb3).more hb3.size).below hb).more hb.size)
    have HA3 : Hid (∀ W, Below w3.heap.size w3 W → Rd W W.heap.size A (ints ms)) := Lib.hid (fun W hb => HA.out _ (b3.trans (hb.mono b3.size)))
    clear hR1 hR2
    go_loopg [8, 9] m (fun g vh i wr => ∃ (k : Nat) (Ah : Option Addr) (ch : Nat), k ≤ m ∧ g = m - k ∧ i = .int .i64 k ∧ vh = .slice Ah (TA t ms k).length ch ∧ wr.ownsRow w3.heap.size 47 2 (.slice Ah (TA t ms k).length ch) (TA t ms k).length (cells (TA t ms k)) ∧ Below w3.heap.size w3 wr)
    case atStart => exact ⟨0, _, _, by omega, rfl, rfl, rfl, own_empty w3 _ (Nat.le_refl _), (Below.refl _ _).alloc (Nat.le_refl _) _⟩
    case round =>
      obtain ⟨k, Ah, ch, hk, rfl, rfl, rfl, hown, hb⟩ := hrel
      have Hown := Lib.hid hown
      have hTl := HTl.out k hk
      have hsz := hb.size
      clear hown
      by_cases hlt : k < m
      · obtain ⟨ad, p, x, rfl, hxk, hp, -, a1⟩ := rd_int (HA3.out wr hb) (k := k) (by rw [Hlm.out]; exact hlt)
        obtain ⟨ad5, p5, y, rfl, hyk, hp5, -, a5⟩ := rd_int (HR1.out wr hb) (k := k) (by rw [Holen.out]; exact hlt)
        have hy := Hout.out k x hxk
        rw [hyk] at hy
        injection hy with hy
        have HS := Lib.hid (plays_step (t := t) hxk)
        obtain ⟨x1, x2⟩ := Hsz.out x (List.mem_of_getElem? hxk)
        have HI := Lib.hid (HInv.out k hk)
        have HT1 : Hid (TA t ms (k + 1) = heldOf (pstep (plays t (ms.take k)) x).tk) := Lib.hid (by unfold TA; rw [HS.out])
        have HT0 : Hid (TA t ms k = heldOf (plays t (ms.take k)).tk) := Lib.hid rfl
        have HBk := Lib.hid (HB.out k hk)
        clear hxk hyk
        generalize TA t ms k = T at *
        generalize plays t (ms.take k) = S at *
        have hTS : T.length = S.tk.length := by rw [HT0.out, heldOf_length]
        have HTS := Lib.hid hTS
        clear hTS
        have HOt := Lib.hid (fun (j : Nat) (h : j < T.length) => rd_at (Rd.of_own Hown.out) (k := j) h)
        by_cases hpos : 0 < x
        · by_cases hf : first S.l (up x) < S.l.length
          · as_aux_lemma =>
            obtain ⟨y', hy1, htk, y0, y2, u1, u2, hap⟩ := dis_take Ht.out HI.out hpos x2 hf
            rw [hy1] at hy
            subst hy
            have HT2 : Hid (TA t ms (k + 1) = T ++ [(y, up x)]) := Lib.hid (by rw [HT1.out, htk, heldOf_append, HT0.out]; unfold h1; rw [if_pos (by simp only; omega)])
            have Hap : Hid (∀ o ∈ T, 0 < o.2 → ¬ (o.1 < y + up x ∧ y < o.1 + o.2)) := Lib.hid (fun o ho hp => by
              rw [HT0.out] at ho
              obtain ⟨o', ho', rfl⟩ := List.mem_map.1 ho
              unfold h1 at hp ⊢
              split at hp
              · rename_i h; rw [if_pos h]; exact hap o' ho' h
              · simp at hp)
            have eu : up x = (x + 16 - 1) / 16 * 16 := by unfold up; rw [show x + 16 - 1 = x + 15 from by omega]
            rw [eu] at HT2 Hap y2 u1 u2
            clear hap htk hy1 hf eu
            have a5' := ca a5 (.cells #[.int .i64 0, .int .i64 0] 47)
            have hy9 : 0 ≤ y := y0
            go_upto_region 19 with fail
            generalize hu : (x + 16 - 1) / 16 * 16 = u at *
            clear hu a5'
            have hgl : ¬ (t - u < y) := by omega
            go_wp2_with fail
            go_loopg [12] T.length (fun g j wx => ∃ (jj : Nat) (q : Nat), jj ≤ T.length ∧ g = T.length - jj ∧ j = .int .i64 jj ∧ wx = (wr.alloc (.cells #[.int .i64 y, .int .i64 u] 47)).drewN q)
            case atStart => exact ⟨0, 0, by omega, rfl, rfl, rfl⟩
            case round =>
              obtain ⟨jj, q, hjj, rfl, rfl, rfl⟩ := hrel
              by_cases hlt2 : jj < T.length
              · as_aux_lemma =>
                obtain ⟨adh, ph, o1, o2, e0, hok, hph, -, q1, q2⟩ := HOt.out jj hlt2
                have bo := HBk.out (o1, o2) (List.mem_of_getElem? hok)
                have Hap1 := Lib.hid (Hap.out (o1, o2) (List.mem_of_getElem? hok))
                subst e0
                simp only at bo
                have q1' := ca q1 (.cells #[.int .i64 y, .int .i64 u] 47)
                have q2' := ca q2 (.cells #[.int .i64 y, .int .i64 u] 47)
                clear hok q1 q2
                by_cases ho2 : 0 < o2
                · by_cases hm1 : o1 < y + u
                  · have hm3 : ¬ y < o1 + o2 := fun h => Hap1.out ho2 ⟨hm1, h⟩
                    have hd3 : decide (y < o1 + o2) = false := by simpa using hm3
                    go_wp2_with fail
                    go_quiet (fail)
                    go_wp2_with fail
                    go_roundg (T.length - (jj + 1))
                    case measure => omega
                    case rel => exact ⟨jj + 1, _, by omega, rfl, by go_num, rfl⟩
                  · have hd2 : decide (o1 < y + u) = false := by simpa using hm1
                    go_wp2_with fail
                    go_quiet (fail)
                    go_wp2_with fail
                    go_roundg (T.length - (jj + 1))
                    case measure => omega
                    case rel => exact ⟨jj + 1, _, by omega, rfl, by go_num, rfl⟩
                · have hd1 : decide (0 < o2) = false := by simpa using ho2
                  go_wp2_with fail
                  go_quiet (fail)
                  go_wp2_with fail
                  go_roundg (T.length - (jj + 1))
                  case measure => omega
                  case rel => exact ⟨jj + 1, _, by omega, rfl, by go_num, rfl⟩
              · as_aux_lemma =>
                go_wp2_with (at_builtin; refine wpList_append_rs _ rfl (.tmp 133) (.tmp 135) 39 rfl w3.heap.size 47 i0 _ 2 16 Try.underlying39 hi hz0 hz1 hz2 rfl (by omega) (.slice Ah T.length ch) T.length (cells T) rfl ((own_drewN (Hown.out.alloc _) q).alloc _) _ (some ⟨wr.heap.size + 1, 0, none⟩) 1 1 (cells [(y, u)]) rfl rfl (rd_new2 wr _ y u q) (cells_one _) (by simp only [maxLen]; omega) (by omega) (by simp; omega) ?_; intro A6 c6 w6 hk6 hm6 hown6 hg6 hat6; rw [← cells_append] at hown6; have b6 : Below w3.heap.size w3 w6 := ((below_drewN (hb.alloc hsz _) q).alloc (by simp; omega) _).grown hg6 (by simp; omega) (fun g hg => (Hown.out.lt g hg).1))
                go_roundg (m - (k + 1))
                case measure => omega
                case rel =>
                  refine ⟨k + 1, A6, c6, by omega, rfl, by go_num, ?_⟩
                  rw [HT2.out, List.length_append]
                  exact ⟨rfl, hown6, b6⟩
          · as_aux_lemma =>
            obtain ⟨hy1, htk⟩ := dis_no (t := t) hpos hf
            rw [hy1] at hy
            subst hy
            have HT2 : Hid (TA t ms (k + 1) = T ++ [(0, 0)]) := Lib.hid (by rw [HT1.out, htk, heldOf_append, HT0.out]; rfl)
            have a5' := ca a5 (.cells #[.int .i64 0, .int .i64 0] 47)
            clear hy1 htk hf
            go_wp2_with (at_builtin; refine wpList_append_rs _ rfl (.tmp 133) (.tmp 135) 39 rfl w3.heap.size 47 i0 _ 2 16 Try.underlying39 hi hz0 hz1 hz2 rfl (by omega) (.slice Ah T.length ch) T.length (cells T) rfl ((Hown.out.alloc _).alloc _) _ (some ⟨wr.heap.size + 1, 0, none⟩) 1 1 (cells [(0, 0)]) rfl rfl (rd_new3 wr _ 0 0) (cells_one _) (by simp only [maxLen]; omega) (by omega) (by simp; omega) ?_; intro A6 c6 w6 hk6 hm6 hown6 hg6 hat6; rw [← cells_append] at hown6; have b6 : Below w3.heap.size w3 w6 := ((hb.alloc hsz _).alloc (by simp; omega) _).grown hg6 (by simp; omega) (fun g hg => (Hown.out.lt g hg).1))
            go_roundg (m - (k + 1))
            case measure => omega
            case rel =>
              refine ⟨k + 1, A6, c6, by omega, rfl, by go_num, ?_⟩
              rw [HT2.out, List.length_append]
              exact ⟨rfl, hown6, b6⟩
        · by_cases hneg : x < 0 ∧ -x ≤ S.tk.length ∧ 0 < (S.tk.getD (-x - 1).toNat (0, 0)).2
          · as_aux_lemma =>
            obtain ⟨hx0, hx1, hx9⟩ := hneg
            have hjl : (-x - 1).toNat < S.tk.length := by omega
            obtain ⟨y1, y2, hyy⟩ : ∃ y1 y2, S.tk[(-x - 1).toNat]? = some (y1, y2) := ⟨_, _, List.getElem?_eq_getElem hjl⟩
            have eg : S.tk.getD (-x - 1).toNat (0, 0) = (y1, y2) := by rw [List.getD, hyy]; rfl
            rw [eg] at hx9
            simp only at hx9
            obtain ⟨hy1, htk, hgr⟩ := dis_back HI.out hx0 hx1 y1 y2 hyy hx9
            rw [hy1] at hy
            subst hy
            have bgr := grain_bd hgr
            simp only at bgr
            have ej : (-x - 1).toNat = (-x).toNat - 1 := by omega
            rw [ej] at htk hyy hjl
            have hTj : T[(-x).toNat - 1]? = some (y, y2) := by
              rw [HT0.out, heldOf, List.getElem?_map, hyy]
              simp [h1, hx9]
            have HT2 : Hid (TA t ms (k + 1) = T.set ((-x).toNat - 1) (0, 0)) := Lib.hid (by rw [HT1.out, htk, heldOf_set, HT0.out]; simp [h1])
            have hTl2 : (-x).toNat - 1 < T.length := by rw [HTS.out]; exact hjl
            obtain ⟨g, e0, hg⟩ := own_some Hown.out (by omega)
            subst e0
            obtain ⟨q1, q2⟩ := cells_get _ _ _ hTj
            have q3 := (Hown.out.cellAt (((-x).toNat - 1) * 2) (by omega)).trans q1
            have q4 := (Hown.out.cellAt (((-x).toNat - 1) * 2 + 1) (by omega)).trans q2
            have f3 := Hown.out.frozenAt (((-x).toNat - 1) * 2)
            have f4 := Hown.out.frozenAt (((-x).toNat - 1) * 2 + 1)
            have HSt : Hid (∀ q, (((wr.drewN q).setCell ⟨g, ((-x).toNat - 1) * 2, none⟩ (.int .i64 0)).setCell ⟨g, ((-x).toNat - 1) * 2 + 1, none⟩ (.int .i64 0)).ownsRow w3.heap.size 47 2 (.slice (some ⟨g, 0, none⟩) T.length ch) T.length (cells (T.set ((-x).toNat - 1) (0, 0)))) := Lib.hid (fun q => by
              rw [cells_set2 T _ y y2 0 0 hTj]
              exact ((own_drewN Hown.out q).stored _ _).1.stored _ _ |>.1)
            have hx2 : 0 ≤ -x - 1 := by omega
            have hx3 : -x - 1 < T.length := by omega
            have hx4 : decide ((T.length : Int) < -x) = false := by simp; omega
            have hb1 : (y2 == 0) = false := by simp; omega
            have hb2 : (y != y) = false := by simp
            have hy9 : 0 ≤ y := by omega
            clear q1 q2 hyy hTj ej eg hy1 htk hgr hjl
            go_wp2_with fail
            go_quiet (fail)
            go_wp2_with fail
            go_roundg (m - (k + 1))
            case measure => omega
            case rel =>
              refine ⟨k + 1, some ⟨g, 0, none⟩, ch, by omega, rfl, by go_num, ?_⟩
              rw [HT2.out, List.length_set]
              exact ⟨rfl, HSt.out _, ((below_drewN hb _).setCell (p := ⟨g, _, none⟩) hg _).setCell (p := ⟨g, _, none⟩) hg _⟩
          · as_aux_lemma =>
            obtain ⟨hy1, htk⟩ := dis_none (S := S) hpos hneg
            rw [hy1] at hy
            subst hy
            have HT2 : Hid (TA t ms (k + 1) = T) := Lib.hid (by rw [HT1.out, htk, HT0.out])
            clear hy1 htk hneg
            by_cases hx0 : x < 0
            · go_wp2_with fail
              go_roundg (m - (k + 1))
              case measure => omega
              case rel =>
                refine ⟨k + 1, Ah, ch, by omega, rfl, by go_num, ?_⟩
                rw [HT2.out]
                exact ⟨rfl, Hown.out, hb⟩
            · go_wp2_with fail
              go_roundg (m - (k + 1))
              case measure => omega
              case rel =>
                refine ⟨k + 1, Ah, ch, by omega, rfl, by go_num, ?_⟩
                rw [HT2.out]
                exact ⟨rfl, Hown.out, hb⟩
      · as_aux_lemma =>
        obtain rfl : k = m := by omega
        have HBk := Lib.hid (HB.out k (Nat.le_refl _))
        have HDk := Lib.hid HD.out
        have Hsum : Hid (fsum LL + fsum (TA t ms k) = t) := Lib.hid (by
          have := Hend.out.2
          rw [Hall.out, HLL.out] at this
          unfold TA
          rw [Hall.out]
          exact this)
        generalize TA t ms k = T at *
        go_wp2_with fail
        go_loopg [13, 14] T.length (fun g s i wx => ∃ (j : Nat) (q : Nat), j ≤ T.length ∧ g = T.length - j ∧ i = .int .i64 j ∧ s = .int .i64 (fsum (T.take j)) ∧ wx = wr.drewN q)
        case atStart => exact ⟨0, 0, by omega, rfl, rfl, rfl, rfl⟩
        case round =>
          obtain ⟨j, q, hjj, rfl, rfl, rfl, rfl⟩ := hrel
          have bsum := fsum_bd (l := T) (fun g hg => by have := HBk.out g hg; omega) j hjj
          by_cases hlt2 : j < T.length
          · as_aux_lemma =>
            obtain ⟨adh, ph, o1, o2, e0, hok, hph, -, q1, q2⟩ := rd_at (Rd.of_own Hown.out) (k := j) hlt2
            subst e0
            have bo := HBk.out (o1, o2) (List.mem_of_getElem? hok)
            have Hst := Lib.hid (fsum_step T j o1 o2 hok)
            have HD1 := Lib.hid (HDk.out (o1, o2) (List.mem_of_getElem? hok))
            simp only at bo
            clear hok
            generalize fsum (T.take j) = sm at *
            go_wp2_with fail
            go_loopg [15] LL.length (fun g i wy => ∃ (e : Nat) (q' : Nat), e ≤ LL.length ∧ g = LL.length - e ∧ i = .int .i64 e ∧ wy = wr.drewN q')
            case atStart => exact ⟨0, q, by omega, rfl, rfl, rfl⟩
            case round =>
              obtain ⟨e, q', hee, rfl, rfl, rfl⟩ := hrel
              by_cases hlt3 : e < LL.length
              · as_aux_lemma =>
                obtain ⟨adl, pl, g1, g2, e1, hgk, hpl, -, r1, r2⟩ := rd_at (HR2.out wr hb) (k := e) hlt3
                subst e1
                have bg := HL.out (g1, g2) (List.mem_of_getElem? hgk)
                have HD2 := Lib.hid (HD1.out (g1, g2) (List.mem_of_getElem? hgk))
                simp only at bg
                clear hgk
                by_cases ho2 : 0 < o2
                · by_cases hm1 : g1 < o1 + o2
                  · have hm3 : ¬ o1 < g1 + g2 := fun h => HD2.out ho2 ⟨hm1, h⟩
                    have hd3 : decide (o1 < g1 + g2) = false := by simpa using hm3
                    go_wp2_with fail
                    go_quiet (fail)
                    go_wp2_with fail
                    go_roundg (LL.length - (e + 1))
                    case measure => omega
                    case rel => exact ⟨e + 1, _, by omega, rfl, by go_num, rfl⟩
                  · have hd2 : decide (g1 < o1 + o2) = false := by simpa using hm1
                    go_wp2_with fail
                    go_quiet (fail)
                    go_wp2_with fail
                    go_roundg (LL.length - (e + 1))
                    case measure => omega
                    case rel => exact ⟨e + 1, _, by omega, rfl, by go_num, rfl⟩
                · have hd1 : decide (0 < o2) = false := by simpa using ho2
                  go_wp2_with fail
                  go_quiet (fail)
                  go_wp2_with fail
                  go_roundg (LL.length - (e + 1))
                  case measure => omega
                  case rel => exact ⟨e + 1, _, by omega, rfl, by go_num, rfl⟩
              · go_wp2_with fail
                go_roundg (T.length - (j + 1))
                case measure => omega
                case rel => exact ⟨j + 1, q', by omega, rfl, by go_num, by rw [Hst.out], rfl⟩
          · as_aux_lemma =>
            obtain rfl : j = T.length := by omega
            have eT : fsum (T.take T.length) = fsum T := by rw [List.take_length]
            rw [eT] at bsum ⊢
            clear eT
            have bLL := fsum_bd (l := LL) (fun g hg => by have := HL.out g hg; omega) LL.length (Nat.le_refl _)
            rw [List.take_length] at bLL
            have hfin : (fsum LL + fsum T == t) = true := by rw [Hsum.out]; simp
            have bb := below_drewN hb q
            generalize fsum LL = sl at *
            generalize fsum T = st at *
            unfold FreeS at HFr
            go_wp2_with (go_at_call 49; refine (HFr.out _ _ _ (HR2.out _ bb)).mono ?_; rintro e w9 ⟨rfl, hb9⟩)
            go_ret
            exact ⟨rfl, b3.trans ((bb.trans (hb9.mono bb.size)).mono b3.size)⟩
end Go.Proofs.Ytinjfmcmjhehoaa.gaps
