/-
  The law WordTexts holds: for every word, every list of bytes and every text, the bytes and texts that word tells and what it reads of bytes and texts are the reference's, and the list is not changed. No condition.
-/
import Derived.Test.YtinjfmcmjhehoaaWordTextsB
import Derived.ProofKit
import Derived.OpenShut
import Derived.ChangeOld
import Derived.SizedLaws
import Derived.Carry
namespace Go.Proofs.Ytinjfmcmjhehoaa.wordTexts
open Go.ChangeShapes Go.WideShapes Go.ChangeAt Go.RowKit
open M W gaps wt
set_option linter.unusedVariables false
theorem bytes5 : Try.prog.bytesOf 5 = 1 := by kernel_rfl
theorem cells5 : Try.prog.cellsOf 5 = 1 := by kernel_rfl
theorem open_bytel {H : Type} {enc : TypeId × Value → H} {W : World} {base fuel : Nat} {v : Value} {x : DataW H × List MemPlace} (h : DataW.trod enc Try.prog W base (fun _ => true) true fuel 23 v.cells.toList = some x) (hs : ∃ A n c, v = .slice A n c) :
    ∃ (A : Option Addr) (n c : Nat) (l : List Int), v = .slice A n c ∧ l.length = n ∧ n ≤ c ∧ c ≤ maxLen ∧ Rd W W.heap.size A (bs l) ∧ (∀ y ∈ l, 0 ≤ y ∧ y ≤ 255) ∧ (x.1 = .nil ∧ n = 0 ∨ ∃ es sp, x.1 = .slice es sp ∧ es.length + sp.length = c) := by
  obtain ⟨A, n, c, rfl⟩ := hs
  rcases open_ints Try.underlying23 Try.underlying5 cells5 h with ⟨hcs, rfl⟩ | ⟨a, len, cap, zs, hcs, hb, hl, hm, hz, rfl, hcell, hwf⟩
  · simp [Value.cells] at hcs
    obtain ⟨rfl, rfl, rfl⟩ := hcs
    exact ⟨none, 0, 0, [], rfl, rfl, Nat.le_refl _, by simp [maxLen], Rd.nil, by simp, .inl ⟨rfl, rfl⟩⟩
  · simp [Value.cells] at hcs
    obtain ⟨rfl, rfl, rfl⟩ := hcs
    simp only [if_true] at hz
    refine ⟨some a, n, c, zs.take n, rfl, by rw [List.length_take]; omega, hl, hm, ?_, fun y hy => ?_, .inr ⟨_, _, rfl, by simp [lits]; omega⟩⟩
    · intro hne
      have hn0 : 0 < n := by
        rcases Nat.eq_zero_or_pos n with h | h
        · subst h; simp [bs] at hne
        · exact h
      have each : ∀ j u, (bs (zs.take n))[j]? = some u → W.cell? (a.add j) = some u := by
        intro j u hu
        have hj : j < n := by
          rcases Nat.lt_or_ge j n with h | h
          · exact h
          · rw [List.getElem?_eq_none (by rw [bs_length, List.length_take]; omega)] at hu; cases hu
        have hjz : j < zs.length := by omega
        rw [hcell j hjz]
        simp only [bs, List.getElem?_map, List.getElem?_take, if_pos hj, List.getElem?_eq_getElem hjz, Option.map_some] at hu
        rw [← hu]
        simp [List.getD, hjz]
      refine ⟨a, rfl, ?_, each⟩
      have hz0 : 0 < zs.length := by omega
      have := World.block_lt_of_cell? W _ (hcell 0 hz0)
      rwa [M.block_add] at this
    · have := bounds_u8 (hwf y (List.mem_of_mem_take hy))
      omega
set_option maxRecDepth 100000 in
set_option maxHeartbeats 800000 in
theorem law_texts (a : Int) (A : Option Addr) (n c : Nat) (l : List Int) (s : ByteArray) (w : World) (ha : 0 ≤ a ∧ a ≤ 4294967295) (hl : l.length = n) (hreach : n * 1 ≤ 140737488351232) (hc : n ≤ c) (hcm : c ≤ maxLen) (hbd : ∀ y ∈ l, 0 ≤ y ∧ y ≤ 255) (hA : Rd w w.heap.size A (bs l)) :
    Calls Try.prog 3 #[.int .u32 a, .slice A n c, .string s] w fun e w' => e = .returned (.bool true) ∧ Below w.heap.size w w' := by
  obtain ⟨a0, a1⟩ := ha
  have HA : Hid (∀ W : World, Below w.heap.size w W → Rd W W.heap.size A (bs l)) := Lib.hid (fun W hb => (hA.below hb).more hb.size)
  have HC : Hid (∀ W : World, Rd W W.heap.size A (bs l) → Calls Try.prog 10 #[.slice A n c] W fun e w' => ∃ A' c', e = .returned (.slice A' n c') ∧ n ≤ c' ∧ c' ≤ maxLen ∧ w'.ownsRow W.heap.size 5 1 (.slice A' n c') n (bs l) ∧ Below W.heap.size W w') :=
    Lib.hid (fun W h => cbytes_any A n c l W hl (by omega) h)
  have HF : Hid (∀ (W : World) (A' : Option Addr) (c' : Nat), Rd W W.heap.size A' (bs l) → Calls Try.prog 11 #[.slice A' n c'] W fun e w' => e = .returned (.tuple #[.int .u32 (fromR l).1, .int .i64 (fromR l).2]) ∧ Below W.heap.size W w') :=
    Lib.hid (fun W A' c' h => from_any A' n c' l W hl (by simp only [maxLen]; omega) h hbd)
  have HR : Hid (∀ (W : World), Rd W W.heap.size A (bs l) → Calls Try.prog 12 #[.slice A n c] W fun e w' => e = .returned (.tuple #[.int .u32 (fromR l).1, .int .i64 (fromR l).2]) ∧ Below W.heap.size W w') :=
    Lib.hid (fun W h => rfrom_any A n c l W hl (by simp only [maxLen]; omega) h hbd)
  have HP : Hid (∀ (W : World), Calls Try.prog 13 #[.string s] W fun e w' => e = .returned (.tuple #[.int .u32 (parseR (nums s)).1, .int .i64 (parseR (nums s)).2]) ∧ W = w') := Lib.hid (fun W => parse_any s W)
  have HQ : Hid (∀ (W : World), Calls Try.prog 14 #[.string s] W fun e w' => e = .returned (.tuple #[.int .u32 (parseR (nums s)).1, .int .i64 (parseR (nums s)).2]) ∧ Below W.heap.size W w') := Lib.hid (fun W => rparse_any s W)
  have HS : Hid (∀ (W : World) (A' B' : Option Addr) (c' d' : Nat), Rd W W.heap.size A' (bs l) → Rd W W.heap.size B' (bs l) → Calls Try.prog 15 #[.slice A' n c', .slice B' n d'] W fun e w' => e = .returned (.bool true) ∧ W = w') :=
    Lib.hid (fun W A' B' c' d' h1 h2 => sameBytes_self A' B' n c' d' W l hl h1 h2)
  have HS4 : Hid (∀ (W : World) (A' B' : Option Addr) (c' d' : Nat), Rd W W.heap.size A' (bs (bytesL a)) → Rd W W.heap.size B' (bs (bytesL a)) → Calls Try.prog 15 #[.slice A' 4 c', .slice B' 4 d'] W fun e w' => e = .returned (.bool true) ∧ W = w') :=
    Lib.hid (fun W A' B' c' d' h1 h2 => sameBytes_self A' B' 4 c' d' W (bytesL a) rfl h1 h2)
  have HB1 := Lib.hid (fun W => bytes_any a W a0 (by omega))
  have HB2 := Lib.hid (fun W => rbytes_any a W a0 (by omega))
  have HH1 := Lib.hid (fun W => hex_any a W a0 (by omega))
  have HH2 := Lib.hid (fun W => rhex_any a W a0 (by omega))
  clear hl hA hbd
  generalize strOfNums (hexS a) = hx at *
  generalize bytesL a = bl at *
  generalize fromR l = fr at *
  generalize parseR (nums s) = pr at *
  obtain ⟨f1, f2⟩ := fr
  obtain ⟨p1, p2⟩ := pr
  simp only at HF HR HP HQ
  go_enter Try.func3, Try.ntmps3
  go_wp2_with (first
    | (go_at_call 10; refine (HC.out _ (HA.out _ (Below.refl _ _))).mono ?_; rintro e w1 ⟨A1, c1, rfl, hk1, hm1, hown1, hb1⟩; have R1 : Hid (∀ W, Below w1.heap.size w1 W → Rd W W.heap.size A1 (bs l)) := Lib.hid (fun W hb => ((Rd.of_own hown1).below hb).more hb.size))
    | (go_at_call 11; refine (HF.out _ A1 c1 (R1.out _ (Below.refl _ _))).mono ?_; rintro e w2 ⟨rfl, hb2⟩; have b2 : Below w.heap.size w w2 := hb1.trans (hb2.mono hb1.size))
    | (go_at_call 12; refine (HR.out _ (HA.out _ b2)).mono ?_; rintro e w3 ⟨rfl, hb3⟩; have b3 : Below w.heap.size w w3 := b2.trans (hb3.mono b2.size); have d3 : Below w1.heap.size w1 w3 := hb2.trans (hb3.mono hb2.size))
    | (go_at_call 13; refine (HP.out _).mono ?_; rintro e w' ⟨rfl, rfl⟩)
    | (go_at_call 14; refine (HQ.out _).mono ?_; rintro e w4 ⟨rfl, hb4⟩; have b4 : Below w.heap.size w w4 := b3.trans (hb4.mono b3.size); have d4 : Below w1.heap.size w1 w4 := d3.trans (hb4.mono d3.size))
    | (go_at_call 16; refine (HB1.out _).mono ?_; rintro e w5 ⟨g5, rfl, h5, hb5⟩; have b5 : Below w.heap.size w w5 := b4.trans (hb5.mono b4.size); have d5 : Below w1.heap.size w1 w5 := d4.trans (hb5.mono d4.size))
    | (go_at_call 17; refine (HB2.out _).mono ?_; rintro e w6 ⟨g6, rfl, h6, hb6⟩; have b6 : Below w.heap.size w w6 := b5.trans (hb6.mono b5.size); have d6 : Below w1.heap.size w1 w6 := d5.trans (hb6.mono d5.size); have h56 := (h5.below hb6).more hb6.size))
  refine (HS4.out _ _ _ _ _ h56 h6).mono ?_
  rintro e w' ⟨rfl, rfl⟩
  go_wp2_with (first
    | (go_at_call 18; refine (HH1.out _).mono ?_; rintro e w7 ⟨rfl, hb7⟩; have b7 : Below w.heap.size w w7 := b6.trans (hb7.mono b6.size); have d7 : Below w1.heap.size w1 w7 := d6.trans (hb7.mono d6.size))
    | (go_at_call 19; refine (HH2.out _).mono ?_; rintro e w8 ⟨rfl, hb8⟩; have b8 : Below w.heap.size w w8 := b7.trans (hb8.mono b7.size); have d8 : Below w1.heap.size w1 w8 := d7.trans (hb8.mono d7.size)))
  refine (HS.out _ A1 A c1 c (R1.out _ d8) (HA.out _ b8)).mono ?_
  rintro e w' ⟨rfl, rfl⟩
  go_wp2_with fail
  go_ret
  exact ⟨rfl, b8⟩
set_option maxRecDepth 100000 in
theorem lifted (os : Os) (started : os.Started) (H : Type) (enc : TypeId × Value → H) :
    ReturnsInHanded {} Try.checked os 3 .any (Rows.wordTextsSpec.pre6 enc Try.prog Try.f3 Rows.wordTextsRow.domain false) (Rows.wordTextsSpec.post enc Try.prog Try.f3 false true false false) := by
  refine returnsInHanded_of_change_sized (C := Try.checked) own started (by kernel_rfl) Try.func3
    (ChangeSpec.witness6 (enc := enc) (C := Try.checked) false ⟨#[], #[.int .u32 0, .slice none 0 0, .string ⟨#[]⟩], []⟩ 8 (by kernel_rfl) (by kernel_rfl) (by kernel_rfl) (by kernel_rfl)) ?_
  intro W base args ds gs before hval0 hW _ hsz0 _
  have hsz : (DataW.weightsEach Try.prog (Try.f3.params.toList ++ Rows.wordTextsSpec.plain.varTypes Try.prog) (ds ++ gs)).all (· ≤ reachBytes) = true := hsz0
  clear hsz0
  have hval : ∀ (j : Nat) t v, Try.f3.params[j]? = some t → args[j]? = some v → Value.okWide Try.prog W .any base t v := hval0
  have hW' := hW
  obtain ⟨p, q, hA0, hV, rfl, _, _⟩ := hW
  have hA : DataW.TrodAll enc Try.prog W 0 (fun _ => true) true Try.f3.params.toList args.toList ds p := hA0
  rw [Try.params3] at hA hval hsz
  obtain ⟨v0, v1, v2, d0, d1, d2, p0, p1, p2, rfl, rfl, rfl, h0, h1, h2⟩ := trodAll_three hA
  obtain ⟨rfl, rfl⟩ := trodVars_none hV
  obtain ⟨a0, rfl, rfl, rfl, w0⟩ := open_int Try.underlying22 (hval 0 22 v0 rfl rfl) h0
  obtain ⟨s2, rfl, rfl, rfl, w2⟩ := Go.ChangeMaps.open_string Try.underlying9 (hval 2 9 v2 rfl rfl) h2
  have k1 := h1
  have lt1 : ∀ x ∈ p1, x.block < W.heap.size := by obtain ⟨m, hm⟩ := k1; exact DataW.trod_lt m _ _ _ hm
  obtain ⟨fuel, hf⟩ := h1
  obtain ⟨A, n, c, l, rfl, hl, hc, hcm, hR, hbd, hd⟩ := open_bytel hf (by obtain ⟨A, n, c, h⟩ := okWide_slice Try.underlying23 (hval 1 23 v1 rfl rfl); exact ⟨A, n, c, h⟩)
  have hreach : n * 1 ≤ 140737488351232 := by
    rcases hd with ⟨_, rfl⟩ | ⟨es, sp, hd, hlen⟩
    · omega
    · simp only at hd
      subst hd
      have := sized_slice hsz (j := 1) (t := 23) (e := 5) rfl rfl Try.underlying23
      rw [bytes5, hlen] at this
      unfold reachBytes at this
      omega
  clear hA0 hval0
  refine (law_texts a0 A n c l s2 W (bounds_u32 w0) hl hreach hc hcm hbd hR).mono fun e W' ⟨he, bel⟩ => ?_
  subst he
  exact ⟨_, rfl, _, _, _, [], _, [], hW', trodAll_mk1 (shut_bool Try.underlying4 _), (trodAll_cons_mk (shut_int Try.underlying22 w0) (trodAll_cons_mk (Below.trod laidOut (by kernel_rfl) (of_decide_eq_true (by kernel_rfl)) k1 bel lt1) (trodAll_cons_mk (Go.ChangeMaps.shut_string Try.underlying9 w2) trodAll_mk0))), rfl, bel.frame _, fun h => by cases h⟩

theorem over : Rows.wordTextsRow.holds Try.pinned (OpenSpec.ofChange Rows.wordTextsSpec) :=
  OpenClaim.holds_of_wide 3 Try.f3 rfl rfl rfl rfl rfl rfl rfl ⟨rfl, rfl, rfl, rfl, rfl⟩ rfl rfl rfl rfl rfl (by kernel_rfl) Try.func3 (by kernel_rfl)
    (of_decide_eq_true (by kernel_rfl)) (by unfold Func.isWrapper; first | (rw [if_pos (by decide +kernel)]; kernel_rfl) | (rw [if_neg (by decide +kernel)]; exact ⟨rfl, rfl⟩))
    (fun os started H enc _ => lifted os started H enc)

theorem proved : Rows.WordTextsSaid := over
#print axioms proved
end Go.Proofs.Ytinjfmcmjhehoaa.wordTexts
