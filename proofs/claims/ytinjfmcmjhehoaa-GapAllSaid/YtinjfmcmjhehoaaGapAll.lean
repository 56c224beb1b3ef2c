/-
  The law GapAll holds: for every total and every list of sizes, when all that was taken is given back, one gap of all is left. No condition.
-/
import Derived.Test.YtinjfmcmjhehoaaGapV
import Derived.Deep.DeepCutAuto
import Derived.ProofKit
import Derived.OpenShut
import Derived.ChangeOld
import Derived.SizedLaws
import Derived.Carry
namespace Go.Proofs.Ytinjfmcmjhehoaa.gapAll
open Go.ChangeShapes Go.WideShapes Go.ChangeAt Go.RowKit
open M G gaps
set_option linter.unusedVariables false
theorem bytes3 : Try.prog.bytesOf 3 = 8 := by kernel_rfl
set_option maxRecDepth 100000 in
set_option maxHeartbeats 800000 in
theorem law_all (t : Int) (A : Option Addr) (n c : Nat) (ns : List Int) (w : World) (hl : ns.length = n) (hreach : n * 8 ≤ 140737488351232) (hc : n ≤ c) (hcm : c ≤ maxLen) (hA : Rd w w.heap.size A (ints ns)) :
    Calls Try.prog 6 #[.int .i64 t, .slice A n c] w fun e w' => e = .returned (.bool true) ∧ Below w.heap.size w w' := by
  obtain ⟨i1, hj, hy0, hy1, hy2⟩ := info_parts info3
  have hnm : n ≤ maxLen := by unfold maxLen; omega
  obtain ⟨m, hm⟩ : ∃ m, m = min n 200 := ⟨_, rfl⟩
  obtain ⟨ms, hms⟩ : ∃ ms, ms = ns.take 200 := ⟨_, rfl⟩
  have Hm : Hid (m = min n 200) := Lib.hid hm
  have hm2 : m ≤ 200 := by omega
  have Hlm : Hid (ms.length = m) := Lib.hid (by rw [hms, List.length_take]; omega)
  have HA : Hid (∀ W : World, Below w.heap.size w W → Rd W W.heap.size A (ints ms)) := Lib.hid (fun W hb => by
    have h1 := ((hA.below hb).more hb.size).take 200
    rwa [show (ints ns).take 200 = ints ms from by rw [hms, ints, ints, List.map_take]] at h1)
  clear hm hms hA hl
  have HW := Lib.hid (works_any)
  have HI : Hid (∀ W : World, Rd W W.heap.size A (ints ms) → Calls Try.prog 44 #[.slice A m c] W fun e w' => ∃ A' c', e = .returned (.slice A' m c') ∧ m ≤ c' ∧ c' ≤ maxLen ∧ w'.ownsRow W.heap.size 3 1 (.slice A' m c') m (ints ms) ∧ Below W.heap.size W w') :=
    Lib.hid (fun W h => ints_any A m c ms W Hlm.out (by omega) h)
  have HF : Hid (∀ W : World, Rd W W.heap.size A (ints ms) → Calls Try.prog 46 #[.slice A m c] W fun e w' => e = .returned (.bool (!ms.any badSize)) ∧ Below W.heap.size W w') :=
    Lib.hid (fun W h => fits_any A m c ms W Hlm.out (by simp only [maxLen]; omega) h)
  obtain ⟨N, hN⟩ : ∃ N, N = cnt ms := ⟨_, rfl⟩
  have HN := Lib.hid hN
  have hN2 : N ≤ m := by have := cnt_le ms; rw [Hlm.out] at this; omega
  have HP : Hid (∀ (W : World) (A' : Option Addr) (c' : Nat), Rd W W.heap.size A' (ints (ms ++ negs N)) → Calls Try.prog 45 #[.int .i64 t, .slice A' (m + N) c'] W (PlayS W (playR t (ms ++ negs N)))) :=
    Lib.hid (fun W A' c' h => Play_any t A' (m + N) c' _ W (by rw [List.length_append, negs_length, Hlm.out]) (by simp only [maxLen]; omega) h)
  have HR := Lib.hid (play_all (t := t) ms (by rw [Hlm.out]; exact hm2))
  rw [← hN] at HR
  clear hN
  unfold maxLen at hnm
  go_enter Try.func6, Try.ntmps6
  go_upto_if 18 with (first | (go_at_call 43; refine (HW.out _).mono ?_; rintro e w1 ⟨rfl, hb1⟩))
  go_cut [1] (fun s1 wc => s1 = .slice A m c ∧ wc = w1)
  case first =>
    by_cases h : 200 < n
    · have e : m = 200 := by have := Hm.out; omega
      subst e
      go_wp2_with fail
      go_meet
      case rel => exact ⟨rfl, rfl⟩
    · have e : m = n := by have := Hm.out; omega
      subst e
      go_wp2_with fail
      go_meet
      case rel => exact ⟨rfl, rfl⟩
  case rest =>
    obtain ⟨rfl, rfl⟩ := hcut
    go_wp2_with (go_at_call 44; refine (HI.out _ (HA.out _ hb1)).mono ?_; rintro e w2 ⟨A2, c2, rfl, hk2, hm2', hown2, hb2⟩)
    have b2 : Below w.heap.size w w2 := hb1.trans (hb2.mono hb1.size)
    have hs2 := b2.size
    have HO2 := Lib.hid (own_base hown2 hb1.size)
    clear hown2
    go_loop [5, 7] (fun q i => ∃ k : Nat, k ≤ m ∧ i = .int .i64 k ∧ q = .int .i64 (cnt (ms.take k))) (fun _ i => m - (intOf i).toNat)
    case atStart => exact ⟨0, by omega, rfl, rfl⟩
    case round =>
      obtain ⟨k, hk, rfl, rfl⟩ := hrel
      by_cases hlt : k < m
      · obtain ⟨ad, p, x, rfl, hxk, hp, -, a1⟩ := rd_int (HA.out w2 b2) (k := k) (by rw [Hlm.out]; exact hlt)
        have HS := Lib.hid (cnt_step hxk)
        have hcb : cnt (ms.take k) ≤ 200 := by have := cnt_le (ms.take k); rw [List.length_take] at this; omega
        clear hxk
        generalize cnt (ms.take k) = q at *
        by_cases hx : 0 < x
        · go_wp2_with fail
          go_round
          case rel => exact ⟨k + 1, by omega, by go_num, by rw [HS.out, if_pos hx]; go_num⟩
          case measure => simp [intOf]; omega
        · go_wp2_with fail
          go_round
          case rel => exact ⟨k + 1, by omega, by go_num, by rw [HS.out, if_neg hx]; rfl⟩
          case measure => simp [intOf]; omega
      · obtain rfl : k = m := by omega
        have hcn : cnt (ms.take k) = N := by rw [List.take_of_length_le (by rw [Hlm.out]; omega)]; exact HN.out.symm
        rw [hcn]
        clear hcn
        go_wp2_with fail
        go_loopw [6, 8] (fun va i wr => ∃ (j : Nat) (A' : Option Addr) (c' : Nat), j ≤ N ∧ i = .int .i64 ((j : Int) + 1) ∧ va = .slice A' (k + j) c' ∧ wr.ownsRow w.heap.size 3 1 (.slice A' (k + j) c') (k + j) (ints (ms ++ negs j)) ∧ Below w.heap.size w wr) (fun _ i _ => N + 1 - (intOf i).toNat)
        case atStart => exact ⟨0, A2, c2, by omega, rfl, rfl, by simpa [negs_zero] using HO2.out, b2⟩
        case round =>
          obtain ⟨j, A3, c3, hj3, rfl, rfl, hown3, hb3⟩ := hrel
          have hs3 := hb3.size
          have HO3 := Lib.hid hown3
          clear hown3
          by_cases hlt2 : j < N
          · go_wp2_with (at_builtin; go_loud (refine wpList_append_rs _ rfl (.tmp 41) (.tmp 44) 49 rfl w.heap.size 3 i1 _ 1 8 Try.underlying49 hj hy0 hy1 hy2 rfl (by omega) (.slice A3 (k + j) c3) (k + j) (ints (ms ++ negs j)) rfl (HO3.out.alloc _) _ (some ⟨wr.heap.size, 0, none⟩) 1 1 (ints [-((j : Int) + 1)]) rfl rfl (rd_newi wr _) (ints_one _) (by simp only [maxLen]; omega) (by omega) (by simp; omega) ?_); intro A6 c6 w6 hk6 hm6 hown6 hg6 hat6; rw [← ints_append, List.append_assoc, ← negs_succ] at hown6; have b6 : Below w.heap.size w w6 := (hb3.alloc hb3.size _).grown hg6 (by simp; omega) (fun g hg => (HO3.out.lt g hg).1))
            go_roundw
            case rel => exact ⟨j + 1, A6, c6, by omega, by go_num, rfl, hown6, b6⟩
            case measure => simp [intOf]; omega
          · obtain rfl : j = N := by omega
            go_upto_region 16 with fail
            have HO4 : Hid (∀ W : World, Below wr.heap.size wr W → Rd W W.heap.size A3 (ints (ms ++ negs j))) := Lib.hid (fun W hb => ((Rd.of_own HO3.out).below hb).more hb.size)
            have b3 := hb3
            have HPl : Hid (Calls Try.prog 45 #[.int .i64 t, .slice A3 (k + j) c3] wr fun e w' => ∃ A1 c1 A2 c2, e = .returned (.tuple #[.slice A1 (playR t (ms ++ negs j)).1.length c1, .slice A2 (playR t (ms ++ negs j)).2.1.length c2, .int .i64 (playR t (ms ++ negs j)).2.2]) ∧ (playR t (ms ++ negs j)).2.1.length ≤ c2 ∧ c2 ≤ maxLen ∧ Rd w' w'.heap.size A2 (cells (playR t (ms ++ negs j)).2.1) ∧ Below wr.heap.size wr w') :=
              Lib.hid ((HP.out wr A3 c3 (Rd.of_own HO3.out)).mono fun e w' ⟨A1, c1, A2, c2, he, _, _, h1, h2, _, h3, h4⟩ => ⟨A1, c1, A2, c2, he, h1, h2, Rd.of_own h3, h4⟩)
            have HNw : Hid (∀ W : World, Calls Try.prog 36 #[.int .i64 t] W fun e w' => ∃ A c, e = .returned (.tuple #[.slice A (newL t).length c, .int .i64 (newE t)]) ∧ Rd w' w'.heap.size A (cells (newL t)) ∧ Below W.heap.size W w') :=
              Lib.hid (fun W => (new_s t W).mono fun e w' ⟨A, c, he, _, h1, h2⟩ => ⟨A, c, he, Rd.of_own h1, h2⟩)
            obtain ⟨r1, r2⟩ := HR.out
            by_cases ht : okTotal t = true
            · by_cases hbd : ms.any badSize = true
              · rw [ht, hbd] at r1
                simp only [Bool.not_true, Bool.and_false] at r1
                rw [r1] at HPl
                rw [hbd] at HF
                rw [newE_ok ht] at HNw
                clear r1 r2 ht hbd
                generalize (playR t (ms ++ negs j)).1 = ra at *
                generalize (playR t (ms ++ negs j)).2.1 = rb at *
                go_wp2_with (first
                  | (go_at_call 45; refine HPl.out.mono ?_; rintro e w4 ⟨A4, c4, A5, c5, rfl, -, -, -, hb4⟩; have b4 : Below w.heap.size w w4 := b3.trans (hb4.mono b3.size))
                  | (go_at_call 36; refine (HNw.out _).mono ?_; rintro e w5 ⟨A6, c6, rfl, -, hb5⟩; have b5 : Below w.heap.size w w5 := b4.trans (hb5.mono b4.size))
                  | (go_at_call 46; refine (HF.out _ (HA.out _ b5)).mono ?_; rintro e w6 ⟨rfl, hb6⟩; have b6 : Below w.heap.size w w6 := b5.trans (hb6.mono b5.size)))
                go_ret
                exact ⟨rfl, b6⟩
              · have hbd' : ms.any badSize = false := by simpa using hbd
                rw [ht, hbd'] at r1
                simp only [Bool.not_false, Bool.and_true, if_true] at r1
                have r2' := r2 ht hbd'
                rw [r1, r2'] at HPl
                rw [hbd'] at HF
                rw [newE_ok ht] at HNw
                have HS : Hid (∀ (W : World) (A' B' : Option Addr) (c' d' : Nat), Rd W W.heap.size A' (cells (newL t)) → Rd W W.heap.size B' (cells (newL t)) → Calls Try.prog 38 #[.slice A' (newL t).length c', .slice B' (newL t).length d'] W fun e w' => e = .returned (.bool true) ∧ Below W.heap.size W w') :=
                  Lib.hid (fun W A' B' c' d' h1 h2 => same_self A' B' _ c' d' (newL_len t) W _ rfl h1 h2)
                clear r1 r2 r2' ht hbd hbd' HR
                generalize (playR t (ms ++ negs j)).1 = ra at *
                generalize newL t = L at *
                go_wp2_with (first
                  | (go_at_call 45; refine HPl.out.mono ?_; rintro e w4 ⟨A4, c4, A5, c5, rfl, -, -, h4, hb4⟩; have b4 : Below w.heap.size w w4 := b3.trans (hb4.mono b3.size))
                  | (go_at_call 36; refine (HNw.out _).mono ?_; rintro e w5 ⟨A6, c6, rfl, h5, hb5⟩; have b5 : Below w.heap.size w w5 := b4.trans (hb5.mono b4.size))
                  | (go_at_call 46; refine (HF.out _ (HA.out _ b5)).mono ?_; rintro e w6 ⟨rfl, hb6⟩; have b6 : Below w.heap.size w w6 := b5.trans (hb6.mono b5.size))
                  | (go_at_call 38; refine (HS.out _ _ _ _ _ ((h4.below (hb5.trans (hb6.mono hb5.size))).more (Nat.le_trans hb5.size hb6.size)) ((h5.below hb6).more hb6.size)).mono ?_; rintro e w7 ⟨rfl, hb7⟩))
                go_ret
                exact ⟨rfl, b6.trans (hb7.mono b6.size)⟩
            · have ht' : okTotal t = false := by simpa using ht
              rw [ht'] at r1
              simp only [Bool.false_and] at r1
              rw [r1] at HPl
              rw [newE_bad ht'] at HNw
              clear r1 r2 ht ht' HR
              generalize (playR t (ms ++ negs j)).1 = ra at *
              generalize (playR t (ms ++ negs j)).2.1 = rb at *
              go_wp2_with (first
                | (go_at_call 45; refine HPl.out.mono ?_; rintro e w4 ⟨A4, c4, A5, c5, rfl, -, -, -, hb4⟩; have b4 : Below w.heap.size w w4 := b3.trans (hb4.mono b3.size))
                | (go_at_call 36; refine (HNw.out _).mono ?_; rintro e w5 ⟨A6, c6, rfl, -, hb5⟩; have b5 : Below w.heap.size w w5 := b4.trans (hb5.mono b4.size)))
              go_ret
              exact ⟨rfl, b5⟩
set_option maxRecDepth 100000 in
theorem lifted (os : Os) (started : os.Started) (H : Type) (enc : TypeId × Value → H) :
    ReturnsInHanded {} Try.checked os 6 .any (Rows.gapAllSpec.pre6 enc Try.prog Try.f6 Rows.gapAllRow.domain false) (Rows.gapAllSpec.post enc Try.prog Try.f6 false true false false) := by
  refine returnsInHanded_of_change_sized (C := Try.checked) own started (by kernel_rfl) Try.func6
    (ChangeSpec.witness6 (enc := enc) (C := Try.checked) false ⟨#[], #[.int .i64 0, .slice none 0 0], []⟩ 8 (by kernel_rfl) (by kernel_rfl) (by kernel_rfl) (by kernel_rfl)) ?_
  intro W base args ds gs before hval0 hW _ hsz0 _
  have hsz : (DataW.weightsEach Try.prog (Try.f6.params.toList ++ Rows.gapAllSpec.plain.varTypes Try.prog) (ds ++ gs)).all (· ≤ reachBytes) = true := hsz0
  clear hsz0
  have hval : ∀ (j : Nat) t v, Try.f6.params[j]? = some t → args[j]? = some v → Value.okWide Try.prog W .any base t v := hval0
  have hW' := hW
  obtain ⟨p, q, hA0, hV, rfl, _, _⟩ := hW
  have hA : DataW.TrodAll enc Try.prog W 0 (fun _ => true) true Try.f6.params.toList args.toList ds p := hA0
  rw [Try.params6] at hA hval hsz
  obtain ⟨v0, v1, d0, d1, p0, p1, rfl, rfl, rfl, h0, h1⟩ := trodAll_two hA
  obtain ⟨rfl, rfl⟩ := trodVars_none hV
  obtain ⟨a0, rfl, rfl, rfl, w0⟩ := open_int Try.underlying3 (hval 0 3 v0 rfl rfl) h0
  have k1 := h1
  have lt1 : ∀ x ∈ p1, x.block < W.heap.size := by obtain ⟨m, hm⟩ := k1; exact DataW.trod_lt m _ _ _ hm
  obtain ⟨fuel, hf⟩ := h1
  obtain ⟨A, n, c, l, rfl, hl, hc, hcm, hR, hd⟩ := open_intl hf (by obtain ⟨A, n, c, h⟩ := okWide_slice Try.underlying49 (hval 1 49 v1 rfl rfl); exact ⟨A, n, c, h⟩)
  have hreach : n * 8 ≤ 140737488351232 := by
    rcases hd with ⟨_, rfl⟩ | ⟨es, sp, hd, hlen⟩
    · omega
    · simp only at hd
      subst hd
      have := sized_slice hsz (j := 1) (t := 49) (e := 3) rfl rfl Try.underlying49
      rw [bytes3, hlen] at this
      unfold reachBytes at this
      omega
  clear hA0 hval0
  refine (law_all a0 A n c l W hl hreach hc hcm hR).mono fun e W' ⟨he, bel⟩ => ?_
  subst he
  exact ⟨_, rfl, _, _, _, [], _, [], hW', trodAll_mk1 (shut_bool Try.underlying4 _), (trodAll_cons_mk (shut_int Try.underlying3 w0) (trodAll_cons_mk (Below.trod laidOut (by kernel_rfl) (of_decide_eq_true (by kernel_rfl)) k1 bel lt1) trodAll_mk0)), rfl, bel.frame _, fun h => by cases h⟩

theorem over : Rows.gapAllRow.holds Try.pinned (OpenSpec.ofChange Rows.gapAllSpec) :=
  OpenClaim.holds_of_wide 6 Try.f6 rfl rfl rfl rfl rfl rfl rfl ⟨rfl, rfl, rfl, rfl, rfl⟩ rfl rfl rfl rfl rfl (by kernel_rfl) Try.func6 (by kernel_rfl)
    (of_decide_eq_true (by kernel_rfl)) (by unfold Func.isWrapper; first | (rw [if_pos (by decide +kernel)]; kernel_rfl) | (rw [if_neg (by decide +kernel)]; exact ⟨rfl, rfl⟩))
    (fun os started H enc _ => lifted os started H enc)

theorem proved : Rows.GapAllSaid := over
#print axioms proved
end Go.Proofs.Ytinjfmcmjhehoaa.gapAll
