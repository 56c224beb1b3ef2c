/-
  The law GapGives holds: for every total, every list of gaps and every gap, what Give, Free and Taken of package gap tell is what the reference tells, and no list is changed. No condition.
-/
import Derived.Test.YtinjfmcmjhehoaaGapM
import Derived.Lib.SmallJoins
import Derived.ProofKit
import Derived.OpenShut
import Derived.ChangeOld
import Derived.SizedLaws
import Derived.Carry
namespace Go.Proofs.Ytinjfmcmjhehoaa.gapGives
open Go.ChangeShapes Go.WideShapes Go.ChangeAt Go.RowKit
open M G gaps
set_option linter.unusedVariables false
theorem own_empty2 (w : World) (o : Obj) : ((w.alloc o).alloc (.cells #[] 47)).ownsRow (w.heap.size + 1) 47 2 (.slice (some ⟨w.heap.size + 1, 0, none⟩) 0 0) 0 [] := by
  have h := own_empty (w.alloc o) (w.heap.size + 1) (by simp)
  simpa using h
set_option maxRecDepth 100000 in
set_option maxHeartbeats 800000 in
theorem law_gives (t f s : Int) (A : Option Addr) (n c : Nat) (l : List Gap) (w : World) (hl : l.length = n) (hreach : n * 16 ≤ 140737488351232) (hc : n ≤ c) (hcm : c ≤ maxLen) (hA : Rd w w.heap.size A (cells l)) :
    Calls Try.prog 7 #[.int .i64 t, .slice A n c, .agg #[.int .i64 f, .int .i64 s]] w fun e w' => e = .returned (.bool true) ∧ Below w.heap.size w w' := by
  obtain ⟨i0, hi, hz0, hz1, hz2⟩ := info_parts info47
  have hnm : n ≤ maxLen := by unfold maxLen; omega
  have HA : Hid (∀ W : World, Below w.heap.size w W → Rd W W.heap.size A (cells l)) := Lib.hid (fun W hb => (hA.below hb).more hb.size)
  have HG1 : Hid (∀ (W : World) (A' : Option Addr) (c' : Nat), n ≤ c' → c' ≤ maxLen → Rd W W.heap.size A' (cells l) → Calls Try.prog 47 #[.int .i64 t, .slice A' n c', .agg #[.int .i64 f, .int .i64 s]] W (GiveS W (giveA t l (f, s)).1 (giveA t l (f, s)).2)) :=
    Lib.hid (fun W A' c' h1 h2 h3 => Give_any t A' n c' l f s W hl hnm h1 h2 h3)
  have HG2 : Hid (∀ (W : World), Rd W W.heap.size A (cells l) → Calls Try.prog 48 #[.int .i64 t, .slice A n c, .agg #[.int .i64 f, .int .i64 s]] W (GiveS W (giveA t l (f, s)).1 (giveA t l (f, s)).2)) :=
    Lib.hid (fun W h2 => rGive_any t A n c l f s W hl hnm hc hcm h2)
  have HF1 : Hid (∀ (W : World) (A' : Option Addr) (c' : Nat), Rd W W.heap.size A' (cells l) → Calls Try.prog 49 #[.int .i64 t, .slice A' n c'] W (FreeS W (freeR t l).1 (freeR t l).2.1 (freeR t l).2.2)) :=
    Lib.hid (fun W A' c' h2 => Free_any t A' n c' l W hl hnm h2)
  have HF2 : Hid (∀ (W : World), Rd W W.heap.size A (cells l) → Calls Try.prog 50 #[.int .i64 t, .slice A n c] W (FreeS W (freeR t l).1 (freeR t l).2.1 (freeR t l).2.2)) :=
    Lib.hid (fun W h2 => rFree_any t A n c l W hl hnm h2)
  have HT1 : Hid (∀ (W : World) (A' : Option Addr) (c' : Nat), Rd W W.heap.size A' (cells l) → Calls Try.prog 51 #[.int .i64 t, .slice A' n c'] W (GiveS W (takenB t l).1 (takenB t l).2)) :=
    Lib.hid (fun W A' c' h2 => Taken_any t A' n c' l W hl hnm h2)
  have HT2 : Hid (∀ (W : World), Rd W W.heap.size A (cells l) → Calls Try.prog 52 #[.int .i64 t, .slice A n c] W (GiveS W (takenB t l).1 (takenB t l).2)) :=
    Lib.hid (fun W h2 => rTaken_any t A n c l W hl hnm h2)
  have HS : Hid (∀ (W : World) (A' B' : Option Addr) (c' d' : Nat), Rd W W.heap.size A' (cells l) → Rd W W.heap.size B' (cells l) → Calls Try.prog 38 #[.slice A' n c', .slice B' n d'] W fun e w' => e = .returned (.bool true) ∧ Below W.heap.size W w') :=
    Lib.hid (fun W A' B' c' d' h1 h2 => same_self A' B' n c' d' hnm W l hl h1 h2)
  have Hl := Lib.hid hl
  clear hl hA
  generalize giveA t l (f, s) = r at *
  obtain ⟨r, er⟩ := r
  generalize freeR t l = x at *
  obtain ⟨x, y, ez⟩ := x
  generalize takenB t l = q at *
  obtain ⟨q, eq⟩ := q
  simp only at HG1 HG2 HF1 HF2 HT1 HT2
  go_enter Try.func7, Try.ntmps7
  go_wp2_with (first
    | (at_builtin; refine wpList_append_rs _ rfl (.tmp 16) (.tmp 17) 39 rfl (w.heap.size + 1) 47 i0 _ 2 16 Try.underlying39 hi hz0 hz1 hz2 rfl (by omega) (.slice (some ⟨w.heap.size + 1, 0, none⟩) 0 0) 0 [] rfl (own_empty2 w _) _ A n c (cells l) rfl (by rw [cells_length, Hl.out]) (HA.out _ (((Below.refl _ _).alloc (Nat.le_refl _) _).alloc (by simp) _)) (cells_one _) (by omega) (by omega) (by simp) ?_; intro A0 c0 w0 hq0 hm0 hown0 hg0 hat0; simp only [Nat.zero_add, List.nil_append] at hown0 hq0; have hb0 : Below w.heap.size w w0 := (((Below.refl _ _).alloc (Nat.le_refl _) _).alloc (by simp) _).grown hg0 (by simp; omega) (fun g hg => by have := lit_block hg; omega); have H0 := Lib.hid (rd_later hown0); have hs0 := hg0.size; simp at hs0; have k0 : w0.cell? ⟨w.heap.size, 0, none⟩ = some (.int .i64 f) := (World.cell?_of_block (a := ⟨w.heap.size, 0, none⟩) (hg0.block w.heap.size (by simp; omega) (fun e => by have := lit_block e.symm; omega))).trans (ca (cn w #[.int .i64 f, .int .i64 s] 47 0) _); have k1 : w0.cell? ⟨w.heap.size, 1, none⟩ = some (.int .i64 s) := (World.cell?_of_block (a := ⟨w.heap.size, 1, none⟩) (hg0.block w.heap.size (by simp; omega) (fun e => by have := lit_block e.symm; omega))).trans (ca (cn w #[.int .i64 f, .int .i64 s] 47 1) _))
    | (go_at_call 47; refine (HG1.out _ A0 c0 hq0 hm0 (H0.out _ (Below.refl _ _))).mono ?_; rintro e w1 ⟨A1, c1, rfl, hk1, hm1, hown1, hb1⟩; have b1 : Below w.heap.size w w1 := hb0.trans (hb1.mono hb0.size); have m0 := cv hb1 k0 (by simp; omega); have m1 := cv hb1 k1 (by simp; omega))
    | (go_at_call 48; refine (HG2.out _ (HA.out _ b1)).mono ?_; rintro e w2 ⟨A2, c2, rfl, hk2, hm2, hown2, hb2⟩; have b2 : Below w0.heap.size w0 w2 := hb1.trans (hb2.mono hb1.size)))
  refine (same_self _ _ _ _ _ (Nat.le_trans hk1 hm1) _ _ rfl ((Rd.of_own hown1).below hb2 |>.size) (Rd.of_own hown2)).mono ?_
  rintro e w3 ⟨rfl, hb3⟩
  have b3 : Below w0.heap.size w0 w3 := b2.trans (hb3.mono b2.size)
  have b3' : Below w.heap.size w w3 := hb0.trans (b3.mono hb0.size)
  clear hown0 hg0 hat0 hown1 hown2 hk1 hm1 hk2 hm2
  go_wp2_with (first
    | (go_at_call 49; refine (HF1.out _ A0 c0 (H0.out _ b3)).mono ?_; rintro e w4 ⟨rfl, hb4⟩; have b4 : Below w0.heap.size w0 w4 := b3.trans (hb4.mono b3.size); have b4' : Below w.heap.size w w4 := hb0.trans (b4.mono hb0.size))
    | (go_at_call 50; refine (HF2.out _ (HA.out _ b4')).mono ?_; rintro e w5 ⟨rfl, hb5⟩; have b5 : Below w0.heap.size w0 w5 := b4.trans (hb5.mono b4.size); have b5' : Below w.heap.size w w5 := hb0.trans (b5.mono hb0.size))
    | (go_at_call 51; refine (HT1.out _ A0 c0 (H0.out _ b5)).mono ?_; rintro e w6 ⟨A6, c6, rfl, hk6, hm6, hown6, hb6⟩; have b6 : Below w0.heap.size w0 w6 := b5.trans (hb6.mono b5.size); have b6' : Below w.heap.size w w6 := hb0.trans (b6.mono hb0.size))
    | (go_at_call 52; refine (HT2.out _ (HA.out _ b6')).mono ?_; rintro e w7 ⟨A7, c7, rfl, hk7, hm7, hown7, hb7⟩; have b7 : Below w0.heap.size w0 w7 := b6.trans (hb7.mono b6.size); have b7' : Below w.heap.size w w7 := hb0.trans (b7.mono hb0.size)))
  refine (same_self _ _ _ _ _ (Nat.le_trans hk6 hm6) _ _ rfl ((Rd.of_own hown6).below hb7 |>.size) (Rd.of_own hown7)).mono ?_
  rintro e w8 ⟨rfl, hb8⟩
  have b8 : Below w0.heap.size w0 w8 := b7.trans (hb8.mono b7.size)
  have b8' : Below w.heap.size w w8 := hb0.trans (b8.mono hb0.size)
  go_wp2_with fail
  refine (HS.out _ A0 A c0 c (H0.out _ b8) (HA.out _ b8')).mono ?_
  rintro e w9 ⟨rfl, hb9⟩
  go_wp2_with fail
  go_ret
  exact ⟨rfl, b8'.trans (hb9.mono b8'.size)⟩
set_option maxRecDepth 100000 in
theorem lifted (os : Os) (started : os.Started) (H : Type) (enc : TypeId × Value → H) :
    ReturnsInHanded {} Try.checked os 7 .any (Rows.gapGivesSpec.pre6 enc Try.prog Try.f7 Rows.gapGivesRow.domain false) (Rows.gapGivesSpec.post enc Try.prog Try.f7 false true false false) := by
  refine returnsInHanded_of_change_sized (C := Try.checked) own started (by kernel_rfl) Try.func7
    (ChangeSpec.witness6 (enc := enc) (C := Try.checked) false ⟨#[], #[.int .i64 0, .slice none 0 0, .agg #[.int .i64 0, .int .i64 0]], []⟩ 8 (by kernel_rfl) (by kernel_rfl) (by kernel_rfl) (by kernel_rfl)) ?_
  intro W base args ds gs before hval0 hW _ hsz0 _
  have hsz : (DataW.weightsEach Try.prog (Try.f7.params.toList ++ Rows.gapGivesSpec.plain.varTypes Try.prog) (ds ++ gs)).all (· ≤ reachBytes) = true := hsz0
  clear hsz0
  have hval : ∀ (j : Nat) t v, Try.f7.params[j]? = some t → args[j]? = some v → Value.okWide Try.prog W .any base t v := hval0
  have hW' := hW
  obtain ⟨p, q, hA0, hV, rfl, _, _⟩ := hW
  have hA : DataW.TrodAll enc Try.prog W 0 (fun _ => true) true Try.f7.params.toList args.toList ds p := hA0
  rw [Try.params7] at hA hval hsz
  obtain ⟨v0, v1, v2, d0, d1, d2, p0, p1, p2, rfl, rfl, rfl, h0, h1, h2⟩ := trodAll_three hA
  obtain ⟨rfl, rfl⟩ := trodVars_none hV
  obtain ⟨a0, rfl, rfl, rfl, w0⟩ := open_int Try.underlying3 (hval 0 3 v0 rfl rfl) h0
  have k2 := h2
  have lt2 : ∀ x ∈ p2, x.block < W.heap.size := by obtain ⟨m, hm⟩ := k2; exact DataW.trod_lt m _ _ _ hm
  obtain ⟨u0, u1, y0, y1, m2, rfl, -, -, hy0, hy1⟩ := Joins.open_agg2 Try.underlying47 (by kernel_rfl) cells47 (hval 2 47 v2 rfl rfl) h2
  obtain ⟨f, e0, -, -⟩ := DataW.trod_int Try.underlying3 hy0
  obtain ⟨s, e1, -, -⟩ := DataW.trod_int Try.underlying3 hy1
  simp at e0 e1
  subst e0 e1
  have k1 := h1
  have lt1 : ∀ x ∈ p1, x.block < W.heap.size := by obtain ⟨m, hm⟩ := k1; exact DataW.trod_lt m _ _ _ hm
  obtain ⟨fuel, hf⟩ := h1
  obtain ⟨A, n, c, l, rfl, hl, hc, hcm, hR, hd⟩ := open_gaps hf (by obtain ⟨A, n, c, h⟩ := okWide_slice Try.underlying39 (hval 1 39 v1 rfl rfl); exact ⟨A, n, c, h⟩)
  have hreach : n * 16 ≤ 140737488351232 := by
    rcases hd with ⟨_, rfl⟩ | ⟨es, sp, hd, hlen⟩
    · omega
    · simp only at hd
      subst hd
      have := sized_slice hsz (j := 1) (t := 39) (e := 47) rfl rfl Try.underlying39
      rw [bytes47, hlen] at this
      unfold reachBytes at this
      omega
  clear hA0 hval0
  refine (law_gives a0 f s A n c l W hl hreach hc hcm hR).mono fun e W' ⟨he, bel⟩ => ?_
  subst he
  exact ⟨_, rfl, _, _, _, [], _, [], hW', trodAll_mk1 (shut_bool Try.underlying4 _), (trodAll_cons_mk (shut_int Try.underlying3 w0) (trodAll_cons_mk (Below.trod laidOut (by kernel_rfl) (of_decide_eq_true (by kernel_rfl)) k1 bel lt1) (trodAll_cons_mk (Below.trod laidOut (by kernel_rfl) (of_decide_eq_true (by kernel_rfl)) k2 bel lt2) trodAll_mk0))), rfl, bel.frame _, fun h => by cases h⟩

theorem over : Rows.gapGivesRow.holds Try.pinned (OpenSpec.ofChange Rows.gapGivesSpec) :=
  OpenClaim.holds_of_wide 7 Try.f7 rfl rfl rfl rfl rfl rfl rfl ⟨rfl, rfl, rfl, rfl, rfl⟩ rfl rfl rfl rfl rfl (by kernel_rfl) Try.func7 (by kernel_rfl)
    (of_decide_eq_true (by kernel_rfl)) (by unfold Func.isWrapper; first | (rw [if_pos (by decide +kernel)]; kernel_rfl) | (rw [if_neg (by decide +kernel)]; exact ⟨rfl, rfl⟩))
    (fun os started H enc _ => lifted os started H enc)

theorem proved : Rows.GapGivesSaid := over
#print axioms proved
end Go.Proofs.Ytinjfmcmjhehoaa.gapGives
