/-
  The contract of put of package alloc. Condition: the facts and the places stand in memory.
-/
import Derived.Test.YthgbmhpfblgjcaaGreatDoorAlC
import Derived.Test.YthgbmhpfblgjcaaGreatDoorAlE
set_option linter.unusedVariables false
set_option linter.unusedSimpArgs false
namespace Go.Proofs.YthgbmhpfblgjcaaGreatDoor.fl
open Go.RowKit Go.Shelf
open M T ty
set_option linter.unusedVariables false
set_option maxHeartbeats 1600000 in
theorem Has_13 (A : Option Addr) (cap : Nat) (l : List Int) (y : Int) (B : Nat) (w : World) (hn : l.length ≤ maxLen) (hA : Rd w B A (ints l)) :
    Calls Tryz.prog 13 #[.slice A l.length cap, .int .i64 y] w fun e w' => e = .returned (.bool (decide (y ∈ l))) ∧ w' = w := by
  unfold maxLen at hn
  have HA := Lib.hid hA
  clear hA
  have HY : Hid (y ∈ l → decide (y ∈ l) = true) := Lib.hid fun h => decide_eq_true h
  have HN : Hid (y ∉ l → decide (y ∈ l) = false) := Lib.hid fun h => decide_eq_false h
  generalize decide (y ∈ l) = ans at *
  go_enter Tryz.func13, Tryz.ntmps13
  go_wp2_with fail
  go_loopg [5] l.length (fun N t wr => ∃ j, j ≤ l.length ∧ N = l.length - j ∧ t = .int .i64 j ∧ w = wr ∧ y ∉ l.take j)
  case atStart => exact ⟨0, by omega, rfl, rfl, rfl, by simp⟩
  case round =>
    obtain ⟨j, hj, rfl, rfl, rfl, hno⟩ := hrel
    by_cases hlj : j < l.length
    · have hljI : (j : Int) < (l.length : Int) := by omega
      obtain ⟨ad, p, x, rfl, hx, hp, -, d0⟩ := rd_int HA.out hlj
      cases hb : (x == y) with
      | true =>
        have HE := Lib.hid (HY.out (by have := List.mem_of_getElem? hx; rwa [beq_iff_eq.1 hb] at this))
        clear hno hx
        go_wp2_with fail
        go_ret
        obtain rfl := HE.out
        exact ⟨rfl, rfl⟩
      | false =>
        have HNO : Hid (y ∉ l.take (j + 1)) := Lib.hid (by
          rw [List.take_add_one, hx, Option.toList_some, List.mem_append, List.mem_singleton]
          rintro (h | h)
          · exact hno h
          · rw [h] at hb
            simp at hb)
        clear hno hx
        go_wp2_with fail
        go_roundg (l.length - (j + 1))
        case measure => omega
        case rel => exact ⟨j + 1, by omega, rfl, by go_num, rfl, HNO.out⟩
    · obtain rfl : j = l.length := by omega
      rw [List.take_length] at hno
      have HE := Lib.hid (HN.out hno)
      clear hno
      go_wp2_with fail
      go_ret
      obtain rfl := HE.out
      exact ⟨rfl, rfl⟩
def placesL : List Int := [0, 1, 2, 3, 4, 5, 6, 7, 8, 9, 10]
theorem places_88 (w : World) : Calls Tryz.prog 88 #[] w fun e w' => e = .returned (.slice (some ⟨w.heap.size, 0, none⟩) 11 11) ∧ w' = w.alloc (.cells (ints placesL).toArray 3) := by
  go_enter Tryz.func88, Tryz.ntmps88
  go_wp2_with fail
  go_ret
  exact ⟨rfl, rfl⟩
theorem rd_bool {w : World} {B : Nat} {A : Option Addr} {l : List Bool} (h : Rd w B A (bools l)) {k : Nat} (hk : k < l.length) :
    ∃ ad p x, A = some ad ∧ l[k]? = some x ∧ ad.add k = p ∧ p.block < B ∧ w.cell? p = some (.bool x) := by
  obtain ⟨ad, e, hb, hc⟩ := h (by intro h0; have h1 := bools_length l; rw [h0, List.length_nil] at h1; omega)
  refine ⟨ad, ad.add k, l[k], e, List.getElem?_eq_getElem hk, rfl, ?_, ?_⟩
  · rw [M.block_add]; exact hb
  · exact hc k _ (by simp [bools, List.getElem?_eq_getElem hk])
set_option maxHeartbeats 1600000 in
theorem Index_89 (A : Option Addr) (cap : Nat) (l : List Bool) (B : Nat) (w : World) (hn : l.length ≤ maxLen) (hA : Rd w B A (bools l)) {n : Nat} (h0 : l[n]? = some false) (h1 : ∀ j, j < n → l[j]? = some true) :
    Calls Tryz.prog 89 #[.slice A l.length cap, .bool false] w fun e w' => e = .returned (.int .i64 n) ∧ w' = w := by
  unfold maxLen at hn
  have HA := Lib.hid hA
  have H0 := Lib.hid h0
  have H1 := Lib.hid h1
  have hnl : n < l.length := (List.getElem?_eq_some_iff.1 h0).1
  clear hA h0 h1
  go_enter Tryz.func89, Tryz.ntmps89
  go_wp2_with fail
  go_loopg [8] l.length (fun N t wr => ∃ j, j ≤ n ∧ N = l.length - j ∧ t = .int .i64 j ∧ w = wr)
  case atStart => exact ⟨0, by omega, rfl, rfl, rfl⟩
  case round =>
    obtain ⟨j, hj, rfl, rfl, rfl⟩ := hrel
    have hljI : (j : Int) < (l.length : Int) := by omega
    obtain ⟨ad, p, x, rfl, hx, hp, -, d0⟩ := rd_bool HA.out (k := j) (by omega)
    by_cases hjn : j < n
    · obtain rfl : x = true := by have := H1.out j hjn; rw [hx] at this; exact Option.some.inj this
      clear hx
      go_wp2_with fail
      go_roundg (l.length - (j + 1))
      case measure => omega
      case rel => exact ⟨j + 1, by omega, rfl, by go_num, rfl⟩
    · obtain rfl : j = n := by omega
      obtain rfl : x = false := by have := H0.out; rw [hx] at this; exact Option.some.inj this
      clear hx
      go_wp2_with fail
      go_ret
      exact ⟨rfl, rfl⟩
end Go.Proofs.YthgbmhpfblgjcaaGreatDoor.fl
namespace Go.Proofs.YthgbmhpfblgjcaaGreatDoor.fl
open Go.RowKit Go.Shelf
open M T ty
set_option linter.unusedVariables false
theorem marks_neg (n : Nat) (l : List Int) (j : Int) (h : j < 0) : marks n (l ++ [j]) = marks n l := by
  unfold marks
  apply List.map_congr_left
  intro r _
  rw [decide_eq_decide]
  simp
  omega
/-- what is taken: by those that clash, and, of the words, by those that must not share one -/
def tk1 (cl : Nat → List Int) (ps : List Int) (i j : Nat) : List Int := ((cl i).take j).map (atP ps)
def tk2 (L : Prs) (ps : List Int) (i j : Nat) : List Int := ((List.range j).filter fun s : Nat => decide (((i : Int), (s : Int)) ∈ L) && decide (16 ≤ atP ps s)).map fun s : Nat => atP ps s
theorem tk2_succ (L : Prs) (ps : List Int) (i j : Nat) : tk2 L ps i (j + 1) = tk2 L ps i j ++ if (decide (((i : Int), (j : Int)) ∈ L) && decide (16 ≤ atP ps j)) = true then [atP ps j] else [] := by
  unfold tk2
  rw [List.range_succ, List.filter_append, List.map_append]
  congr 1
  rw [List.filter_cons]
  split <;> rfl
def takenL (cl : Nat → List Int) (L : Prs) (r : Nat) (ps : List Int) (wd i : Nat) : List Bool := marks (17 + wd) (tk1 cl ps i (cl i).length ++ tk2 L ps i r)
def okPl (tk : List Bool) (acr : Bool) (p : Nat) : Bool := !(tk[p]?.getD false) && (decide (3 < p) || !acr)
def placeOf (tk : List Bool) (acr : Bool) : Nat := match (List.range 11).find? (okPl tk acr) with | some p => p | none => 16 + (tk.drop 16).findIdx (! ·)
def wordsOf (wd p : Nat) : Nat := if 16 ≤ p then max wd (p - 15) else wd
theorem find_none {tk : List Bool} {acr : Bool} (h : ∀ k, k < 11 → okPl tk acr k = false) : (List.range 11).find? (okPl tk acr) = none := by
  rw [List.find?_eq_none]
  intro k hk
  rw [h k (List.mem_range.1 hk)]
  decide
theorem find_some {tk : List Bool} {acr : Bool} {j : Nat} (hj : j < 11) (h : ∀ k, k < j → okPl tk acr k = false) (hj2 : okPl tk acr j = true) : placeOf tk acr = j := by
  have : (List.range 11).find? (okPl tk acr) = some j := by
    rw [List.find?_eq_some_iff_getElem]
    refine ⟨hj2, j, by simpa using hj, by simp, fun k hk => ?_⟩
    rw [List.getElem_range, h k hk]
    rfl
  unfold placeOf
  rw [this]
/-- the box of an allocator -/
def XBox (W : World) (xb : Nat) (F : KLay) (r : Nat) (v : Value) (wd : Nat) : Prop := W.heap[xb]? = some (.cells #[.slice (some ⟨F.g, 0, none⟩) r r, .slice (some ⟨F.nb, 0, none⟩) r r, .slice (some ⟨F.ab, 0, none⟩) r r, .slice F.WA r F.wc, v, .int .i64 (wd : Int)] 106 (0, 0))
theorem XBox.cells {W : World} {xb r wd : Nat} {F : KLay} {v : Value} (h : XBox W xb F r v wd) : W.cell? ⟨xb, 0, none⟩ = some (.slice (some ⟨F.g, 0, none⟩) r r) ∧ W.cell? ⟨xb, 1, none⟩ = some (.slice (some ⟨F.nb, 0, none⟩) r r) ∧ W.cell? ⟨xb, 2, none⟩ = some (.slice (some ⟨F.ab, 0, none⟩) r r) ∧ W.cell? ⟨xb, 3, none⟩ = some (.slice F.WA r F.wc) ∧ W.cell? ⟨xb, 4, none⟩ = some v ∧ W.cell? ⟨xb, 5, none⟩ = some (.int .i64 (wd : Int)) ∧ W.frozen? ⟨xb, 5, none⟩ = false :=
  ⟨Go.Joins.cell_of_block h 0, Go.Joins.cell_of_block h 1, Go.Joins.cell_of_block h 2, Go.Joins.cell_of_block h 3, Go.Joins.cell_of_block h 4, Go.Joins.cell_of_block h 5, Go.Joins.unfrozen_of_block h 5⟩
/-- what put leaves -/
def PutP (W : World) (base xb ob : Nat) (F : KLay) (r pc wd p : Nat) (ps : List Int) (i : Nat) (e : Ending) (w' : World) : Prop :=
  e = .returned (.tuple #[]) ∧ XBox w' xb F r (.slice (some ⟨ob, 0, none⟩) r pc) (wordsOf wd p) ∧ w'.ownsRow base 3 1 (.slice (some ⟨ob, 0, none⟩) r pc) r (ints (ps.set i (p : Int))) ∧ Below base W w' ∧ W.heap.size ≤ w'.heap.size
theorem ints_set (l : List Int) (i : Nat) (x : Int) : (ints l).set i (.int .i64 x) = ints (l.set i x) := by unfold ints; rw [List.map_set]
theorem placesL_get : ∀ j : Nat, j < 11 → placesL[j]? = some (j : Int) := by decide
set_option maxRecDepth 20000 in
set_option maxHeartbeats 16000000 in
theorem put_49 {W : World} {base xb ob r pc wd : Nat} {F : KLay} {cl : Nat → List Int} {nv ac : List Bool} {L : Prs} {ps : List Int} (h : KAt W base F cl nv ac L r) (hx : XBox W xb F r (.slice (some ⟨ob, 0, none⟩) r pc) wd) (hxb : base ≤ xb) (ho : W.ownsRow base 3 1 (.slice (some ⟨ob, 0, none⟩) r pc) r (ints ps)) (hps : ps.length = r)
    (hp : ∀ s : Nat, s < r → -1 ≤ atP ps s ∧ atP ps s < 16 + (wd : Int)) (hr : r ≤ 4096) (hwd : wd ≤ 4096) (hcl : ∀ a, ∀ s ∈ cl a, 0 ≤ s ∧ s < (r : Int)) (hcn : ∀ a, (cl a).length ≤ 4096) (hal : ac.length = r) {i : Nat} (hi : i < r) :
    Calls Tryz.prog 49 #[.pointer (some ⟨xb, 0, none⟩), .int .i64 i, .bool false] W (PutP W base xb ob F r pc wd (placeOf (takenL cl L r ps wd i) (ac[i]?.getD false)) ps i) := by
  have hrI : (r : Int) ≤ 4096 := by omega
  have hiI : (i : Int) < (r : Int) := by omega
  have hwI : (wd : Int) ≤ 4096 := by omega
  have hobl : base ≤ ob ∧ ob < W.heap.size := ho.lt ob rfl
  have hxl : xb < W.heap.size := (Array.getElem?_eq_some_iff.1 hx).1
  have hxo : xb ≠ ob := fun e => by
    rcases ho.2 with ⟨e', -⟩ | ⟨g, cap, cur, e', -, hg, -⟩
    · simp at e'
    · simp at e'
      obtain ⟨rfl, rfl⟩ := e'
      rw [← e] at hg
      have := hx.symm.trans hg
      simp at this
  obtain ⟨x0, x1, x2, x3, x4, x5, xf⟩ := hx.cells
  obtain ⟨g0, hgr⟩ := h.clash hi
  have hmk := run_make_row' (P := Tryz.prog) 84 4 (.bool false) 1 Tryz.underlying84 info4 rfl .i64 .i64 (17 + wd) (by omega) (by omega)
  rw [show ((17 + wd : Nat) : Int) = 17 + (wd : Int) by omega] at hmk
  have HPS : Hid (∀ W' : World, W'.heap[ob]? = W.heap[ob]? → ∀ s : Nat, s < r → W'.cell? ⟨ob, s, none⟩ = some (.int .i64 (atP ps s))) := Lib.hid fun W' hW s hs => by
    refine (cell_of_heap (p := ⟨ob, s, none⟩) hW).trans ?_
    rw [ho.cellAt s (by omega)]
    have hg : ps[s]? = some (ps[s]'(by omega)) := List.getElem?_eq_getElem _
    rw [show (ints ps)[s]? = some (.int .i64 (ps[s]'(by omega))) by simp [ints, hg], atP_get hg]
  have HPB := Lib.hid hp
  have HCB := Lib.hid (hcl i)
  have HCB0 := Lib.hid (hcl i)
  have hcl9 := hcn i
  have hclI : ((cl i).length : Int) ≤ 4096 := by omega
  have HK := Lib.hid h
  have HX := Lib.hid hx
  have HO := Lib.hid ho
  have ha9 : ac[i]? = some (ac[i]'(by omega)) := List.getElem?_eq_getElem _
  have HA9 := Lib.hid (h.a.cell ha9)
  have hgA : ac[i]?.getD false = ac[i]'(by omega) := by rw [ha9]; rfl
  rw [hgA]
  generalize ac[i]'(by omega) = acr at *
  have hgi : F.g < W.heap.size ∨ True := .inr trivial
  have HT0 : Hid ((W.alloc (.cells (madeCells #[Value.bool false] (17 + wd)) 4)).heap[W.heap.size]? = some (.cells (bools (marks (17 + wd) (tk1 cl ps i 0))).toArray 4 (0, 0))) := Lib.hid (by
    rw [made_false, show tk1 cl ps i 0 = [] from rfl, marks_nil]
    exact heap_alloc_new W _)
  have hab : F.ab < W.heap.size := h.a.lt
  have hgb : F.g < W.heap.size := by
    obtain ⟨ad, e, hb, -⟩ := h.g.row (by simp; omega)
    obtain rfl := Option.some.inj e
    exact Nat.lt_of_lt_of_le hb (by omega)
  clear h hx ho hp hcl hcn ha9 hgA hal
  unfold takenL
  go_enter Tryz.func49, Tryz.ntmps49
  go_wp2_with fail
  clear x0 x1 x2 x3 x4 x5 xf g0 hmk
  generalize F.A i = Ai at *
  generalize F.c i = ci at *
  have HW1 : Hid (Below W.heap.size W (W.alloc (.cells (madeCells #[Value.bool false] (17 + wd)) 4))) := Lib.hid ((Below.refl _ _).alloc (Nat.le_refl _) _)
  generalize W.alloc (.cells (madeCells #[Value.bool false] (17 + wd)) 4) = W1 at *
  have htb : xb ≠ W.heap.size := by omega
  have htb2 : ob ≠ W.heap.size := by omega
  have hset : ∀ (wr : World) (j : Nat), Below W.heap.size W wr → Below W.heap.size W (wr.setCell ⟨W.heap.size, j, none⟩ (.bool true)) := fun wr j hb => hb.setCell (p := ⟨W.heap.size, j, none⟩) (Nat.le_refl _) _
  have HSET := Lib.hid hset
  clear hset
  go_loopg [31] (cl i).length (fun N t wr => ∃ j, j ≤ (cl i).length ∧ N = (cl i).length - j ∧ t = .int .i64 j ∧ Below W.heap.size W wr ∧ BoolsAt wr W.heap.size (marks (17 + wd) (tk1 cl ps i j)))
  case atStart => exact ⟨0, by omega, rfl, rfl, HW1.out, HT0.out⟩
  case round =>
    obtain ⟨j, hj, rfl, rfl, hb, ht⟩ := hrel
    clear HT0 HW1
    by_cases hlj : j < (cl i).length
    · have hljI : (j : Int) < ((cl i).length : Int) := by omega
      obtain ⟨ad, p, s9, rfl, hs9, hp, -, d0⟩ := rd_int ((hgr.more (show base ≤ W.heap.size by omega)).below hb) hlj
      obtain ⟨s0, s1⟩ := HCB.out s9 (List.mem_of_getElem? hs9)
      obtain ⟨s, rfl⟩ := Int.eq_ofNat_of_zero_le s0
      have hsr : s < r := by omega
      obtain ⟨x0, x1, x2, x3, x4, x5, xf⟩ := XBox.cells ((hb.block xb hxl).trans HX.out)
      have q0 := HPS.out wr (hb.block ob hobl.2) s hsr
      obtain ⟨b1, b2⟩ := HPB.out s hsr
      have htk : tk1 cl ps i (j + 1) = tk1 cl ps i j ++ [atP ps (s : Int)] := by unfold tk1; rw [List.take_add_one, hs9, Option.toList_some, List.map_append]; rfl
      generalize atP ps (s : Int) = u at *
      by_cases hu : 0 ≤ u
      · obtain ⟨un, rfl⟩ := Int.eq_ofNat_of_zero_le hu
        have hun : un < 17 + wd := by omega
        have hunI : (un : Int) < 17 + (wd : Int) := by omega
        have m0 := ht.cell (marks_get (17 + wd) (tk1 cl ps i j) un hun)
        have mf := ht.unfrozen un
        have hts := ht.set un true
        rw [← marks_snoc _ _ _ hun, ← htk] at hts
        have HTS := Lib.hid hts
        have HB2 := Lib.hid (HSET.out wr un hb)
        clear hb ht hs9 s0 s1 htk hts hu
        go_wp2_with fail
        go_roundg ((cl i).length - (j + 1))
        case measure => omega
        case rel => exact ⟨j + 1, by omega, rfl, by go_num, HB2.out, HTS.out⟩
      · have hu' : u < 0 := by omega
        rw [← marks_neg _ _ u hu', ← htk] at ht
        have HTS := Lib.hid ht
        have HB2 := Lib.hid hb
        clear hb ht hs9 s0 s1 htk hu
        go_wp2_with fail
        go_roundg ((cl i).length - (j + 1))
        case measure => omega
        case rel => exact ⟨j + 1, by omega, rfl, by go_num, HB2.out, HTS.out⟩
    · obtain rfl : j = (cl i).length := by omega
      have HB1 := Lib.hid hb
      have HT1 : Hid (BoolsAt wr W.heap.size (marks (17 + wd) (tk1 cl ps i (cl i).length ++ tk2 L ps i 0))) := Lib.hid (by simpa [tk2] using ht)
      obtain ⟨x0, x1, x2, x3, x4, x5, xf⟩ := XBox.cells ((hb.block xb hxl).trans HX.out)
      have hkw := HK.out.below (hb.mono (show base ≤ W.heap.size by omega)) (Nat.le_refl _)
      obtain ⟨wa, wp, hwa, hwp, w0⟩ := hkw.wrow hi
      rw [hwa] at x3
      have HM := Lib.hid (HK.out.m i hi)
      clear hb ht hkw HCB hgr
      have hT1 : ∀ x ∈ tk1 cl ps i (cl i).length, x < 16 + (wd : Int) := fun x hx => by
        unfold tk1 at hx
        rw [List.take_length] at hx
        obtain ⟨s, hs, rfl⟩ := List.mem_map.1 hx
        obtain ⟨s0, s1⟩ := HCB0.out s hs
        obtain ⟨q, rfl⟩ := Int.eq_ofNat_of_zero_le s0
        exact (HPB.out q (by omega)).2
      have HT19 := Lib.hid hT1
      clear hT1
      generalize tk1 cl ps i (cl i).length = T1 at *
      go_wp2_with fail
      clear x0 x1 x2 x3 x4 x5 xf w0
      go_loopg [57] r (fun N t wr => ∃ j, j ≤ r ∧ N = r - j ∧ t = .int .i64 j ∧ Below W.heap.size W wr ∧ BoolsAt wr W.heap.size (marks (17 + wd) (T1 ++ tk2 L ps i j)))
      case atStart => exact ⟨0, by omega, rfl, rfl, HB1.out, HT1.out⟩
      case round =>
        obtain ⟨j, hj, rfl, rfl, hb, ht⟩ := hrel
        clear HT1 HB1
        by_cases hlj : j < r
        · have hljI : (j : Int) < (r : Int) := by omega
          obtain ⟨x0, x1, x2, x3, x4, x5, xf⟩ := XBox.cells ((hb.block xb hxl).trans HX.out)
          have q0 := HPS.out wr (hb.block ob hobl.2) j hlj
          obtain ⟨b1, b2⟩ := HPB.out j hlj
          have m9 := BoolsAt.cell ((hb.block (F.wb i) (by have := HM.out.2; omega)).trans HM.out.1) (mrow_get L i hlj)
          have hts2 := tk2_succ L ps i j
          generalize atP ps (j : Int) = u at *
          by_cases hm : ((i : Int), (j : Int)) ∈ L
          · rw [decide_eq_true hm] at m9 hts2
            by_cases hu : 16 ≤ u
            · rw [if_pos (by simp [hu])] at hts2
              obtain ⟨un, rfl⟩ := Int.eq_ofNat_of_zero_le (show 0 ≤ u by omega)
              have hun : un < 17 + wd := by omega
              have hunI : (un : Int) < 17 + (wd : Int) := by omega
              have m0 := ht.cell (marks_get (17 + wd) (T1 ++ tk2 L ps i j) un hun)
              have mf := ht.unfrozen un
              have hts := ht.set un true
              rw [← marks_snoc _ _ _ hun, List.append_assoc, ← hts2] at hts
              have HTS := Lib.hid hts
              have HB2 := Lib.hid (HSET.out wr un hb)
              clear hb ht hts hts2 hm
              go_wp2_with fail
              go_roundg (r - (j + 1))
              case measure => omega
              case rel => exact ⟨j + 1, by omega, rfl, by go_num, HB2.out, HTS.out⟩
            · rw [if_neg (by simp; omega), List.append_nil] at hts2
              rw [← hts2] at ht
              have HTS := Lib.hid ht
              have HB2 := Lib.hid hb
              have hu' : u < 16 := by omega
              clear hb ht hts2 hm hu
              go_wp2_with fail
              go_roundg (r - (j + 1))
              case measure => omega
              case rel => exact ⟨j + 1, by omega, rfl, by go_num, HB2.out, HTS.out⟩
          · rw [decide_eq_false hm] at m9 hts2
            rw [if_neg (by simp), List.append_nil] at hts2
            rw [← hts2] at ht
            have HTS := Lib.hid ht
            have HB2 := Lib.hid hb
            clear hb ht hts2 hm
            go_wp2_with fail
            go_roundg (r - (j + 1))
            case measure => omega
            case rel => exact ⟨j + 1, by omega, rfl, by go_num, HB2.out, HTS.out⟩
        · obtain rfl : j = r := by omega
          have HPL := Lib.hid (places_88 wr)
          have htl : (marks (17 + wd) (T1 ++ tk2 L ps i j)).length = 17 + wd := marks_length _ _
          have hlast : (marks (17 + wd) (T1 ++ tk2 L ps i j))[16 + wd]? = some false := by
            rw [marks_get _ _ _ (by omega)]
            rw [decide_eq_false]
            intro hm
            rcases List.mem_append.1 hm with hm | hm
            · have := HT19.out _ hm
              omega
            · unfold tk2 at hm
              obtain ⟨s, hs, e⟩ := List.mem_map.1 hm
              have h1 := List.mem_range.1 (List.mem_filter.1 hs).1
              have := (HPB.out s h1).2
              omega
          have HLAST := Lib.hid hlast
          clear hlast
          generalize marks (17 + wd) (T1 ++ tk2 L ps i j) = tk at *
          have HT5 : Hid (BoolsAt (wr.alloc (.cells (ints placesL).toArray 3)) W.heap.size tk) := Lib.hid ((heap_alloc_lt _ _ ht.lt).trans ht)
          have HB5 : Hid (Below W.heap.size W (wr.alloc (.cells (ints placesL).toArray 3))) := Lib.hid (hb.alloc hb.size _)
          have HPL5 : Hid ((wr.alloc (.cells (ints placesL).toArray 3)).heap[wr.heap.size]? = some (.cells (ints placesL).toArray 3 (0, 0))) := Lib.hid (heap_alloc_new wr _)
          have HTL := Lib.hid htl
          clear hb ht htl
          go_wp2_with (go_at_call 88; go_loud ((refine HPL.out.mono ?_; rintro e w5 ⟨rfl, rfl⟩)))
          generalize wr.alloc (.cells (ints placesL).toArray 3) = W5 at *
          generalize wr.heap.size = pb at *
          have HXB : Hid (XBox W5 xb F j (.slice (some ⟨ob, 0, none⟩) j pc) wd) := Lib.hid ((HB5.out.block xb hxl).trans HX.out)
          have HOB : Hid (W5.ownsRow base 3 1 (.slice (some ⟨ob, 0, none⟩) j pc) j (ints ps)) := Lib.hid (own_below HO.out HB5.out fun g e => (HO.out.lt g e).2)
          have HA5 : Hid (W5.cell? ⟨F.ab, i, none⟩ = some (.bool acr)) := Lib.hid ((HB5.out.cell (p := ⟨F.ab, i, none⟩) hab).trans HA9.out)
          have HBB : Hid (Below base W W5) := Lib.hid (HB5.out.mono (by omega))
          have HEND : Hid (∀ k : Nat, k < 11 → placeOf tk acr = k → PutP W base xb ob F j pc wd (placeOf tk acr) ps i (.returned (.tuple #[])) (W5.setCell ⟨ob, i, none⟩ (.int .i64 (k : Int)))) := Lib.hid fun k hk e => by
            rw [e]
            have hs := (HOB.out.stored i (.int .i64 (k : Int))).1
            rw [ints_set] at hs
            exact ⟨rfl, by unfold wordsOf; rw [if_neg (by omega)]; exact (heap_other _ hxo).trans HXB.out, hs, HBB.out.setCell (p := ⟨ob, i, none⟩) hobl.1 _, by rw [World.size_setCell]; exact HB5.out.size⟩
          go_loopg [82] 11 (fun N t wr2 => ∃ k, k ≤ 11 ∧ N = 11 - k ∧ t = .int .i64 k ∧ W5 = wr2 ∧ ∀ m, m < k → okPl tk acr m = false)
          case atStart => exact ⟨0, by omega, rfl, rfl, rfl, fun m hm => by omega⟩
          case round =>
            obtain ⟨k, hk, rfl, rfl, rfl, hno⟩ := hrel
            obtain ⟨x0, x1, x2, x3, x4, x5, xf⟩ := HXB.out.cells
            have o0 := HOB.out.cellAt i (by omega)
            rw [show (ints ps)[i]? = some (.int .i64 (ps[i]'(by omega))) by simp [ints, List.getElem?_eq_getElem (show i < ps.length by omega)]] at o0
            have of' := HOB.out.frozenAt i
            by_cases hk11 : k < 11
            · have hkI : (k : Int) < 11 := by omega
              have p0 : W5.cell? ⟨pb, k, none⟩ = some (.int .i64 (k : Int)) := by
                rw [Go.Joins.cell_of_block HPL5.out k, List.getElem?_toArray]
                simp [ints, placesL_get k hk11]
              have htk : tk[k]? = some (tk[k]'(by rw [HTL.out]; omega)) := List.getElem?_eq_getElem _
              have t0 := HT5.out.cell htk
              have a0 := HA5.out
              have hok : okPl tk acr k = (!(tk[k]'(by rw [HTL.out]; omega)) && (decide (3 < k) || !acr)) := by unfold okPl; rw [htk]; rfl
              generalize tk[k]'(by rw [HTL.out]; omega) = bk at *
              have hyes : okPl tk acr k = true → placeOf tk acr = k := fun h => find_some hk11 hno h
              have hnx : okPl tk acr k = false → ∀ m, m < k + 1 → okPl tk acr m = false := fun h m hm => by
                rcases Nat.lt_or_ge m k with h1 | h1
                · exact hno m h1
                · obtain rfl : m = k := by omega
                  exact h
              have HY := Lib.hid (fun h => HEND.out k hk11 (hyes h))
              have HN := Lib.hid hnx
              have HOK := Lib.hid hok
              clear htk hok hyes hnx hno
              cases bk with
              | true =>
                have HN2 := Lib.hid (HN.out (by rw [HOK.out]; rfl))
                go_wp2_with fail
                go_roundg (11 - (k + 1))
                case measure => omega
                case rel => exact ⟨k + 1, by omega, rfl, by go_num, rfl, HN2.out⟩
              | false =>
                by_cases h3 : 3 < k
                · have h3I : 3 < (k : Int) := by omega
                  have HE := Lib.hid (HY.out (by rw [HOK.out]; simp [h3]))
                  go_wp2_with fail
                  go_end0
                  exact HE.out
                · have h3I : ¬ 3 < (k : Int) := by omega
                  cases acr with
                  | true =>
                    have HN2 := Lib.hid (HN.out (by rw [HOK.out]; simp [h3]))
                    go_wp2_with fail
                    go_roundg (11 - (k + 1))
                    case measure => omega
                    case rel => exact ⟨k + 1, by omega, rfl, by go_num, rfl, HN2.out⟩
                  | false =>
                    have HE := Lib.hid (HY.out (by rw [HOK.out]; simp))
                    go_wp2_with fail
                    go_end0
                    exact HE.out
            · obtain rfl : k = 11 := by omega
              have hdl : (tk.drop 16).length = 17 + wd - 16 := by rw [List.length_drop, HTL.out]
              have hex : ∃ x ∈ tk.drop 16, (!x) = true := by
                have h9 := HLAST.out
                have : (tk.drop 16)[wd]? = some false := by rw [List.getElem?_drop]; exact h9
                exact ⟨false, List.mem_of_getElem? this, rfl⟩
              have hlt : (tk.drop 16).findIdx (! ·) < (tk.drop 16).length := List.findIdx_lt_length_of_exists hex
              have h0 : (tk.drop 16)[(tk.drop 16).findIdx (! ·)]? = some false := by
                rw [List.getElem?_eq_getElem hlt]
                have := List.findIdx_getElem (w := hlt)
                simpa using this
              have h1 : ∀ m, m < (tk.drop 16).findIdx (! ·) → (tk.drop 16)[m]? = some true := fun m hm => by
                have := List.not_of_lt_findIdx hm
                rw [List.getElem?_eq_getElem (by omega)]
                simpa using this
              have hrd : Rd W5 W5.heap.size (some ⟨W.heap.size, 16, none⟩) (bools (tk.drop 16)) := fun _ => ⟨_, rfl, HT5.out.lt, fun m u hu => by
                have e : Addr.add ⟨W.heap.size, 16, none⟩ m = ⟨W.heap.size, 16 + m, none⟩ := by unfold Addr.add; split <;> simp_all
                rw [e, Go.Joins.cell_of_block HT5.out (16 + m), List.getElem?_toArray]
                unfold bools at hu ⊢
                rw [List.getElem?_map, List.getElem?_drop] at hu
                rw [List.getElem?_map]
                exact hu⟩
              have hix := Index_89 (some ⟨W.heap.size, 16, none⟩) (17 + wd - 16) (tk.drop 16) W5.heap.size W5 (by rw [hdl]; simp only [maxLen]; omega) hrd h0 h1
              rw [hdl] at hix hlt
              have hpl : placeOf tk acr = 16 + (tk.drop 16).findIdx (! ·) := by unfold placeOf; rw [find_none hno]
              have hpl8 := hpl
              generalize (tk.drop 16).findIdx (! ·) = n at *
              have hpl9 := Lib.hid hpl8
              clear hpl8
              have hnw : n ≤ wd := by omega
              have HIX := Lib.hid hix
              have hnI : (n : Int) ≤ 4096 := by omega
              have hnw' : (n : Int) ≤ (wd : Int) := by omega
              clear hdl hex hlt h0 h1 hrd hix hpl hno HEND
              go_wp2_with (go_at_call 89; go_loud ((refine HIX.out.mono ?_; rintro e w7 ⟨rfl, rfl⟩)))
              go_end0
              have hs := (HOB.out.stored i (.int .i64 (16 + (n : Int)))).1
              rw [ints_set] at hs
              have hwo : (max (wd : Int) (16 + (n : Int) - 15)) = ((wordsOf wd (16 + n) : Nat) : Int) := by
                unfold wordsOf
                rw [if_pos (by omega), show 16 + n - 15 = n + 1 by omega, show (16 + (n : Int) - 15) = ((n + 1 : Nat) : Int) by omega]
                omega
              have e16 : (16 + (n : Int)) = ((16 + n : Nat) : Int) := by omega
              rw [hwo]
              refine ⟨rfl, ?_, ?_, (HBB.out.setCell (p := ⟨ob, i, none⟩) hobl.1 _).setCell (p := ⟨xb, 5, none⟩) hxb _, by rw [World.size_setCell, World.size_setCell]; exact HB5.out.size⟩
              · unfold XBox
                rw [heap_set (o := 5) ((heap_other _ hxo).trans HXB.out)]
                rw [hpl9.out]
                rfl
              · rw [hpl9.out, ← e16]
                exact own_same hs fun g e => heap_other _ (fun e2 => by have := (Option.some.inj e : ob = g); omega)
end Go.Proofs.YthgbmhpfblgjcaaGreatDoor.fl
