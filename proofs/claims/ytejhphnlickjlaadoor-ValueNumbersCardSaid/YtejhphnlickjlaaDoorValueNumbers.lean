/-
  The law ValueNumbers holds, as a tied card: for every two types, every value, every number and every list of bytes, what package value tells of numbers and conversions is the reference's, and the list is not changed. Condition: the table of keywords reads as the program's own text lays it (the card ties it to that text).
-/
import Derived.Test.YtejhphnlickjlaaDoorVaW
import Derived.Test.YtejhphnlickjlaaDoorKeys
import Derived.Test.YtejhphnlickjlaaDoorTie
import Derived.Test.YtejhphnlickjlaaDoorCards
import Derived.ProofKit
import Derived.OpenShut
import Derived.ChangeOld
import Derived.SizedLaws
import Derived.Carry
import Derived.Lib.SmallJoins
import Derived.SevenTiedAt
namespace Go.Proofs.YtejhphnlickjlaaDoor.valueNumbers
open Go.ChangeShapes Go.WideShapes Go.ChangeAt Go.RowKit Go.Joins
open M ty
set_option linter.unusedVariables false
theorem bytes5 : Tryd.prog.bytesOf 5 = 1 := by kernel_rfl
theorem cells5 : Tryd.prog.cellsOf 5 = 1 := by kernel_rfl
theorem cells24 : Tryd.prog.cellsOf 24 = 3 := by kernel_rfl
theorem laidOut : laidOutB Tryd.prog = true := by kernel_rfl
theorem open_bytel {H : Type} {enc : TypeId × Value → H} {W : World} {base fuel : Nat} {v : Value} {x : DataW H × List MemPlace} (h : DataW.trod enc Tryd.prog W base (fun _ => true) true fuel 25 v.cells.toList = some x) (hs : ∃ A n c, v = .slice A n c) :
    ∃ (A : Option Addr) (n c : Nat) (l : List Int), v = .slice A n c ∧ l.length = n ∧ n ≤ c ∧ c ≤ maxLen ∧ Rd W W.heap.size A (bs l) ∧ (∀ y ∈ l, 0 ≤ y ∧ y ≤ 255) ∧ (x.1 = .nil ∧ n = 0 ∨ ∃ es sp, x.1 = .slice es sp ∧ es.length + sp.length = c) := by
  obtain ⟨A, n, c, rfl⟩ := hs
  rcases open_ints Tryd.underlying25 Tryd.underlying5 cells5 h with ⟨hcs, rfl⟩ | ⟨a, len, cap, zs, hcs, hb, hl, hm, hz, rfl, hcell, hwf⟩
  · simp [Value.cells] at hcs
    obtain ⟨rfl, rfl, rfl⟩ := hcs
    exact ⟨none, 0, 0, [], rfl, rfl, Nat.le_refl _, by simp [maxLen], Rd.nil, by simp, .inl ⟨rfl, rfl⟩⟩
  · simp [Value.cells] at hcs
    obtain ⟨rfl, rfl, rfl⟩ := hcs
    simp only [if_true] at hz
    refine ⟨some a, n, c, zs.take n, rfl, by rw [List.length_take]; omega, hl, hm, ?_, fun y hy => ?_, .inr ⟨_, _, rfl, by simp [lits]; omega⟩⟩
    · intro hne
      have hn0 : 0 < n := by
        rcases Nat.eq_zero_or_pos n with h | h
        · subst h; simp [bs] at hne
        · exact h
      have each : ∀ j u, (bs (zs.take n))[j]? = some u → W.cell? (a.add j) = some u := by
        intro j u hu
        have hj : j < n := by
          rcases Nat.lt_or_ge j n with h | h
          · exact h
          · rw [List.getElem?_eq_none (by rw [bs_length, List.length_take]; omega)] at hu; cases hu
        have hjz : j < zs.length := by omega
        rw [hcell j hjz]
        simp only [bs, List.getElem?_map, List.getElem?_take, if_pos hj, List.getElem?_eq_getElem hjz, Option.map_some] at hu
        rw [← hu]
        simp [List.getD, hjz]
      refine ⟨a, rfl, ?_, each⟩
      have hz0 : 0 < zs.length := by omega
      have := World.block_lt_of_cell? W _ (hcell 0 hz0)
      rwa [M.block_add] at this
    · have := bounds_u8 (hwf y (List.mem_of_mem_take hy))
      omega
theorem int_tup (l : List Int) (n : Int) : ∃ a b c e, intV l n = .tuple #[.agg #[.int .i64 a, .int .i64 b, .int .i64 c], .int .i64 e] := by
  unfold intV vT; split <;> exact ⟨_, _, _, _, rfl⟩
theorem conv_tup (l m : List Int) (k i o : Int) : ∃ a b c e, convV l m k i o = .tuple #[.agg #[.int .i64 a, .int .i64 b, .int .i64 c], .int .i64 e] := by
  unfold convV vT
  split
  · split
    · split <;> exact ⟨_, _, _, _, rfl⟩
    · exact ⟨_, _, _, _, rfl⟩
  · exact ⟨_, _, _, _, rfl⟩
theorem unpack_tup (l b : List Int) : ∃ a b' c e, unpackV l b = .tuple #[.agg #[.int .i64 a, .int .i64 b', .int .i64 c], .int .i64 e] := by
  unfold unpackV vT
  split
  · exact ⟨_, _, _, _, rfl⟩
  · split <;> exact ⟨_, _, _, _, rfl⟩
theorem law (s t : ByteArray) (k i o n : Int) (A : Option Addr) (m c : Nat) (l : List Int) (w : World) (hK : KeysIn w) (hs : s.size ≤ maxLen) (ht : t.size ≤ maxLen) (hl : l.length = m) (hreach : m * 1 ≤ 140737488351232)
    (hR : Rd w w.heap.size A (bs l)) (hb : ∀ y ∈ l, 0 ≤ y ∧ y ≤ 255) :
    Calls Tryd.prog 3 #[.string s, .string t, .agg #[.int .i64 k, .int .i64 i, .int .i64 o], .int .i64 n, .slice A m c] w fun e w' => e = .returned (.bool true) ∧ Below w.heap.size w w' := by
  obtain ⟨xa, xb, xc, xe, hx⟩ := int_tup (T.nums s) n
  obtain ⟨za, zb, zc, ze, hz⟩ := conv_tup (T.nums s) (T.nums t) k i o
  obtain ⟨ua, ub, uc, ue, hu⟩ := unpack_tup (T.nums s) l
  exact law_walk (b := T.ofT (T.nums s) k i o)
    (Lib.hid (fun W hW => (Of_any s k i o W (hK.below hW.below) hs).mono fun e w' ⟨a, b⟩ => ⟨a, hW.after b⟩))
    (Lib.hid (fun W hW => (Of2_any s k i o W hs).mono fun e w' ⟨a, b⟩ => ⟨a, hW.after b⟩))
    (Lib.hid (fun W => by have := Int_any s n W; rw [hx] at this; exact this))
    (Lib.hid (fun W => by have := Int2_any s n W; rw [hx] at this; exact this))
    (Lib.hid (fun W hW => by have := Conv_any s t k i o W (hK.below hW.below) hs ht; rw [hz] at this; exact this))
    (Lib.hid (fun W => by have := Conv2_any s t k i o W hs ht; rw [hz] at this; exact this))
    (Lib.hid (fun W hW => (hR.below hW).more hW.size))
    (Lib.hid (fun W hW => cbytes_any A m c l W hl (by omega) hW))
    (Lib.hid (fun A c W hW => by have := Unpack_any s A m c l W hl (by simp only [maxLen]; omega) hW hb; rw [hu] at this; exact this))
    (Lib.hid (fun A c W hW => by have := Unpack2_any s A m c l W hl hW hb; rw [hu] at this; exact this))
    (Lib.hid (fun W hW => Pack_any s k i o W (hK.below hW.below) hs))
    (Lib.hid (fun W => Pack2_any s k i o W hs))
    (Lib.hid (fun A B n c d W xs hx hA hB => sameBytes_self A B n c d W xs hx hA hB))
    (Lib.hid hl)
set_option maxRecDepth 100000 in
theorem lifted (os : Os) (started : os.Started) (H : Type) (enc : TypeId × Value → H) :
    ReturnsInHanded {} Tryd.checked os 3 .any (fun w args => (Rows.valueNumbersSpec.pre enc Tryd.prog Tryd.f3 [] false w args ∧ laidMetH Tryd.prog laidK w) ∧ sizedMet enc Tryd.prog Tryd.f3 (OpenSpec.ofChange Rows.valueNumbersSpec) false w args)
      (Rows.valueNumbersSpec.post enc Tryd.prog Tryd.f3 false true false false) := by
  refine returnsInHanded_of_change_and (C := Tryd.checked) (X := fun w _ => laidMetH Tryd.prog laidK w) (fun _ _ _ hh h => h.of_heap hh) own started (by kernel_rfl) Tryd.func3
    (ChangeSpec.witness_shaped (enc := enc) (C := Tryd.checked) (os := os) (X := fun w _ => laidMetH Tryd.prog laidK w) false (World.doorLaid Tryd.prog 400 os) #[.string ⟨#[]⟩, .string ⟨#[]⟩, .agg #[.int .i64 0, .int .i64 0, .int .i64 0], .int .i64 0, .slice none 0 0] 8 rfl (World.shaped_of_RefB (by kernel_rfl) (by kernel_rfl)) (by kernel_rfl) (by kernel_rfl) (by kernel_rfl) (door_met os _)) ?_
  intro W base args ds gs before hval0 hW _ hsz0 hL _
  have hsz : (DataW.weightsEach Tryd.prog (Tryd.f3.params.toList ++ Rows.valueNumbersSpec.plain.varTypes Tryd.prog) (ds ++ gs)).all (· ≤ reachBytes) = true := hsz0
  clear hsz0
  have hval : ∀ (j : Nat) t v, Tryd.f3.params[j]? = some t → args[j]? = some v → Value.okWide Tryd.prog W .any base t v := hval0
  have hW' := hW
  obtain ⟨p, q, hA0, hV, rfl, _, _⟩ := hW
  have hA : DataW.TrodAll enc Tryd.prog W 0 (fun _ => true) true Tryd.f3.params.toList args.toList ds p := hA0
  rw [Tryd.params3] at hA hval hsz
  obtain ⟨v0, vs0, d0, ds0, p0, q0, hargs, rfl, rfl, h0, r0⟩ := trodAll_cons hA
  obtain ⟨v1, vs1, d1, ds1, p1, q1, rfl, rfl, rfl, h1, r1⟩ := trodAll_cons r0
  obtain ⟨v2, vs2, d2, ds2, p2, q2, rfl, rfl, rfl, h2, r2⟩ := trodAll_cons r1
  obtain ⟨v3, vs3, d3, ds3, p3, q3, rfl, rfl, rfl, h3, r3⟩ := trodAll_cons r2
  obtain ⟨v4, vs4, d4, ds4, p4, q4, rfl, rfl, rfl, h4, r4⟩ := trodAll_cons r3
  obtain ⟨rfl, rfl, rfl⟩ := trodAll_nil r4
  obtain ⟨args⟩ := args
  simp only at hargs
  subst hargs
  obtain ⟨rfl, rfl⟩ := trodVars_none hV
  obtain ⟨s, rfl, rfl, rfl, hs⟩ := Go.ChangeMaps.open_string Tryd.underlying22 (hval 0 22 v0 rfl rfl) h0
  obtain ⟨t, rfl, rfl, rfl, ht⟩ := Go.ChangeMaps.open_string Tryd.underlying22 (hval 1 22 v1 rfl rfl) h1
  have k2 := h2
  have lt2 : ∀ x ∈ p2, x.block < W.heap.size := by obtain ⟨m, hm⟩ := k2; exact DataW.trod_lt m _ _ _ hm
  obtain ⟨c0, c1, c2, y0, y1, y2, m2, rfl, rfl, rfl, hy0, hy1, hy2⟩ := open_agg3 Tryd.underlying24 (by kernel_rfl) cells24 (hval 2 24 v2 rfl rfl) h2
  obtain ⟨k, e0, rfl, wk⟩ := DataW.trod_int Tryd.underlying3 hy0
  obtain ⟨i, e1, rfl, wi⟩ := DataW.trod_int Tryd.underlying3 hy1
  obtain ⟨o, e2, rfl, wo⟩ := DataW.trod_int Tryd.underlying3 hy2
  simp at e0 e1 e2
  subst e0 e1 e2
  obtain ⟨n, rfl, rfl, rfl, wn⟩ := open_int Tryd.underlying3 (hval 3 3 v3 rfl rfl) h3
  have k4 := h4
  have lt4 : ∀ x ∈ p4, x.block < W.heap.size := by obtain ⟨m, hm⟩ := k4; exact DataW.trod_lt m _ _ _ hm
  obtain ⟨fuel, hf⟩ := h4
  obtain ⟨A, m, c, l, rfl, hl, hc, hcm, hR, hbd, hd⟩ := open_bytel hf (by obtain ⟨A, n, c, h⟩ := okWide_slice Tryd.underlying25 (hval 4 25 v4 rfl rfl); exact ⟨A, n, c, h⟩)
  have hreach : m * 1 ≤ 140737488351232 := by
    rcases hd with ⟨_, rfl⟩ | ⟨es, sp, hd, hlen⟩
    · omega
    · simp only at hd
      subst hd
      have := sized_slice hsz (j := 4) (t := 25) (e := 5) rfl rfl Tryd.underlying25
      rw [bytes5, hlen] at this
      unfold reachBytes at this
      omega
  clear hA0 hval0
  refine (law s t k i o n A m c l W (keys_of_laid hL) hs ht hl hreach hR hbd).mono fun e W' ⟨he, bel⟩ => ?_
  subst he
  exact ⟨_, rfl, _, _, _, [], _, [], hW', trodAll_mk1 (shut_bool Tryd.underlying4 _), (trodAll_cons_mk (Go.ChangeMaps.shut_string Tryd.underlying22 hs) (trodAll_cons_mk (Go.ChangeMaps.shut_string Tryd.underlying22 ht) (trodAll_cons_mk (Below.trod laidOut (by kernel_rfl) (of_decide_eq_true (by kernel_rfl)) k2 bel lt2) (trodAll_cons_mk (shut_int Tryd.underlying3 wn) (trodAll_cons_mk (Below.trod laidOut (by kernel_rfl) (of_decide_eq_true (by kernel_rfl)) k4 bel lt4) trodAll_mk0))))), rfl, bel.frame _, fun h => by cases h⟩
theorem over : Rows.ValueNumbersSaid :=
  OpenClaim.holds_of_wide 3 Tryd.f3 rfl rfl rfl rfl rfl rfl rfl ⟨rfl, rfl, rfl, rfl, rfl⟩ rfl rfl rfl rfl rfl (by kernel_rfl) Tryd.func3 (by kernel_rfl)
    (of_decide_eq_true (by kernel_rfl)) (by unfold Func.isWrapper; first | (rw [if_pos (by decide +kernel)]; kernel_rfl) | (rw [if_neg (by decide +kernel)]; exact ⟨rfl, rfl⟩))
    (fun os started H enc _ => lifted os started H enc)
theorem proved : Rows.ValueNumbersCardSaid :=
  Claim7.holds_tied_plain_at .later [] [.widerDeep] true (true, "7dd3d083c3b2dc06b18c7cdb1cdd24b8f4b79a2d4ea36f6ea8d1aa26a6f3b6b2") false
    over (fun _ h => by cases h) (by kernel_rfl) (fun _ h => by cases h) valueNumbers_row_tie rfl ⟨rfl, rfl⟩ (by kernel_rfl) rfl
    (fun f fn hf hfn => by
      obtain rfl : f = 3 := Option.some.inj ((show Tryd.prog.funcNamed "catapult/catapultlaw15.ValueNumbers" = some 3 by kernel_rfl).symm.trans hf) |>.symm
      obtain rfl : fn = Tryd.f3 := (Option.some.inj (Tryd.func3.symm.trans hfn)).symm
      exact ⟨by kernel_rfl, fun j t ht => by
        rw [Tryd.params3] at ht
        have h3 : t = 22 ∨ t = 24 ∨ t = 3 ∨ t = 25 := by
          have hm : t ∈ [22, 22, 24, 3, 25] := by
            have := Array.mem_of_getElem? ht
            simpa using this
          simp at hm
          omega
        rcases h3 with rfl | rfl | rfl | rfl
        · exact (show Tryd.prog.wantsStandIn 22 = false by kernel_rfl)
        · exact (show Tryd.prog.wantsStandIn 24 = false by kernel_rfl)
        · exact (show Tryd.prog.wantsStandIn 3 = false by kernel_rfl)
        · exact (show Tryd.prog.wantsStandIn 25 = false by kernel_rfl)⟩)
    (by kernel_rfl)
#print axioms proved
end Go.Proofs.YtejhphnlickjlaaDoor.valueNumbers
