/-
  The plain laws of an allocation: clashes go both ways; what is assigned is right. No program's code in sight.
-/
import Derived.Test.YthgbmhpfblgjcaaGreatDoorAlD
import Derived.Test.YthgbmhpfblgjcaaGreatDoorAlE
import Derived.Test.YthgbmhpfblgjcaaGreatDoorAlJ
set_option linter.unusedVariables false
set_option linter.unusedSimpArgs false
namespace Go.Proofs.YthgbmhpfblgjcaaGreatDoor.fl
open Go.RowKit Go.Shelf
open M T ty
set_option linter.unusedVariables false
def okP (words p : Int) : Prop := -1 ≤ p ∧ (p ≤ 10 ∨ 16 ≤ p) ∧ p < 16 + words
def ShapeP (ps : List Int) (words : Int) (r : Nat) : Prop := ps.length = r ∧ 0 ≤ words ∧ words ≤ 4096 ∧ ∀ p ∈ ps, okP words p
def AllR (f : Fn) (rc : List Bool) (s : Ins) (r : Nat) (ps : List Int) (n : Nat) : Prop := ∀ i, i < n → RightP (clK f rc s) (nots r (needs f.bl rc s f.bl.length)) (marks r (acL f rc s (anl f rc s r f.bl.length))) (wdL f rc s r (anl f rc s r f.bl.length)) r ps i
def CheckP (f : Fn) (r : Nat) (ps : List Int) (words : Int) (w : World) (e : Ending) (w' : World) : Prop :=
  ∃ rc s n, e = .returned (.int .i64 n) ∧ Found (tos f.bl) (-1) 0 rc ∧ Lives (tos f.bl) f.bl rc s ∧ (∀ k, clash f.params.toNat f.bl rc s k < 2 ^ r) ∧ (n = 0 ∨ n = 5) ∧ (n = 0 ↔ ShapeP ps words r ∧ AllR f rc s r ps r) ∧ Below w.heap.size w w'
def Pre (words : Int) (ps : List Int) (j : Nat) : Prop := ∀ p ∈ ps.take j, okP words p
theorem Pre.snoc {words : Int} {ps : List Int} {j : Nat} {p : Int} (h : Pre words ps j) (hp : ps[j]? = some p) (ho : okP words p) : Pre words ps (j + 1) := fun x hx => by
  rw [List.take_add_one, hp, Option.toList_some] at hx
  rcases List.mem_append.1 hx with hx | hx
  · exact h x hx
  · rw [List.mem_singleton] at hx
    rw [hx]
    exact ho
theorem AllR.snoc {f : Fn} {rc : List Bool} {s : Ins} {r : Nat} {ps : List Int} {n : Nat} (h : AllR f rc s r ps n) (hn : RightP (clK f rc s) (nots r (needs f.bl rc s f.bl.length)) (marks r (acL f rc s (anl f rc s r f.bl.length))) (wdL f rc s r (anl f rc s r f.bl.length)) r ps n) : AllR f rc s r ps (n + 1) := fun i hi => by
  rcases Nat.lt_or_ge i n with h1 | h1
  · exact h i h1
  · obtain rfl : i = n := by omega
    exact hn
set_option maxRecDepth 20000 in
set_option maxHeartbeats 16000000 in
theorem Check_16 (f : Fn) (L : FLay) (r : Nat) (w : World) (h : Stands w f L r) (ps : List Int) (words : Int) {PA : Option Addr} {pc : Nat} (hp : Rd w w.heap.size PA (ints ps)) (hpl : ps.length ≤ 4096) (hw1 : -9000000000000000000 ≤ words) (hw2 : words ≤ 9000000000000000000) :
    Calls Tryz.prog 16 #[fnV f L, .agg #[.slice PA ps.length pc, .int .i64 words]] w (CheckP f r ps words w) := by
  have hr4 := h.r4
  have hrI : (r : Int) ≤ 4096 := by omega
  have hplI : (ps.length : Int) ≤ 4096 := by omega
  have HAL : Hid (Below w.heap.size w ((w.alloc (FObj f L)).alloc (.cells #[.slice PA ps.length pc, .int .i64 words] 29))) := Lib.hid (((Below.refl _ _).alloc (Nat.le_refl _) _).alloc (by simp) _)
  have hst := h.after HAL.out
  have HKN := Lib.hid (known_38 f L r _ hst)
  have HV : Hid (FBox ((w.alloc (FObj f L)).alloc (.cells #[.slice PA ps.length pc, .int .i64 words] 29)) w.heap.size f L) := Lib.hid ((heap_alloc_lt _ _ (by simp)).trans (heap_alloc_new w _))
  have HA9 : Hid (((w.alloc (FObj f L)).alloc (.cells #[.slice PA ps.length pc, .int .i64 words] 29)).heap[w.heap.size + 1]? = some (.cells #[.slice PA ps.length pc, .int .i64 words] 29 (0, 0))) := Lib.hid (by have := heap_alloc_new (w.alloc (FObj f L)) (.cells #[.slice PA ps.length pc, .int .i64 words] 29); rw [World.size_alloc] at this; exact this)
  have HREG := Lib.hid h.reg
  have HP := Lib.hid hp
  clear h hst hp
  obtain ⟨SA, sc, BA, bc, OA, oc, AA, ac⟩ := L
  unfold fnV at HKN ⊢
  unfold FObj at HKN HAL HV HA9
  unfold KnownP kV at HKN
  simp only at HKN HAL HV HA9 ⊢
  go_enter Tryz.func16, Tryz.ntmps16
  go_upto_region 4 with (go_at_call 38; go_loud ((refine HKN.out.mono ?_; rintro e w1 ⟨rc, s, F, rfl, hka, hfo, hli, hct, hb1⟩; have hv1 : FBox w1 w.heap.size f ⟨SA, sc, BA, bc, OA, oc, AA, ac⟩ := HV.out.after hb1; have ha1 := (hb1.block (w.heap.size + 1) (by simp)).trans HA9.out; obtain ⟨c0, c1, c2, c3, c4⟩ := hv1.cells; rw [HREG.out] at c2; have b0 := Go.Joins.cell_of_block ha1 0; have b1 := Go.Joins.cell_of_block ha1 1; have hsz : w.heap.size + 1 < w1.heap.size := (Array.getElem?_eq_some_iff.1 ha1).1; have HKA := Lib.hid hka; have HFO := Lib.hid hfo; have HLI := Lib.hid hli; have HCT := Lib.hid hct; have HB1 := Lib.hid (HAL.out.trans (hb1.mono HAL.out.size)); have HV1 := Lib.hid hv1; have HA1 := Lib.hid ha1; clear hka hfo hli hct hb1 hv1 ha1)))
  have HKB : Hid (KBox (w1.alloc (.cells #[.slice (some ⟨F.g, 0, none⟩) r r, .slice (some ⟨F.nb, 0, none⟩) r r, .slice (some ⟨F.ab, 0, none⟩) r r, .slice F.WA r F.wc] 98)) w1.heap.size F r) := Lib.hid (heap_alloc_new w1 _)
  have HK1 := Lib.hid (HKA.out.keep (B' := w1.heap.size) (fun k hk => heap_alloc_lt w1 (.cells #[.slice (some ⟨F.g, 0, none⟩) r r, .slice (some ⟨F.nb, 0, none⟩) r r, .slice (some ⟨F.ab, 0, none⟩) r r, .slice F.WA r F.wc] 98) hk) (Nat.le_refl _))
  have HBW := Lib.hid (HB1.out.alloc HB1.out.size (.cells #[.slice (some ⟨F.g, 0, none⟩) r r, .slice (some ⟨F.nb, 0, none⟩) r r, .slice (some ⟨F.ab, 0, none⟩) r r, .slice F.WA r F.wc] 98))
  have HP1 := Lib.hid (HP.out.below HBW.out)
  have x2 := (cell_of_heap (p := ⟨w.heap.size, 2, none⟩) (heap_alloc_lt w1 (.cells #[.slice (some ⟨F.g, 0, none⟩) r r, .slice (some ⟨F.nb, 0, none⟩) r r, .slice (some ⟨F.ab, 0, none⟩) r r, .slice F.WA r F.wc] 98) (show w.heap.size < _ by omega))).trans c2
  have x0 := (cell_of_heap (p := ⟨w.heap.size + 1, 0, none⟩) (heap_alloc_lt w1 (.cells #[.slice (some ⟨F.g, 0, none⟩) r r, .slice (some ⟨F.nb, 0, none⟩) r r, .slice (some ⟨F.ab, 0, none⟩) r r, .slice F.WA r F.wc] 98) hsz)).trans b0
  have x1 := (cell_of_heap (p := ⟨w.heap.size + 1, 1, none⟩) (heap_alloc_lt w1 (.cells #[.slice (some ⟨F.g, 0, none⟩) r r, .slice (some ⟨F.nb, 0, none⟩) r r, .slice (some ⟨F.ab, 0, none⟩) r r, .slice F.WA r F.wc] 98) hsz)).trans b1
  generalize w1.alloc (.cells #[.slice (some ⟨F.g, 0, none⟩) r r, .slice (some ⟨F.nb, 0, none⟩) r r, .slice (some ⟨F.ab, 0, none⟩) r r, .slice F.WA r F.wc] 98) = W1 at *
  have HEND : Hid (∀ n, (n = 0 ∨ n = 5) → (n = 0 ↔ ShapeP ps words r ∧ AllR f rc s r ps r) → CheckP f r ps words w (.returned (.int .i64 n)) W1) := Lib.hid fun n h1 h2 => ⟨rc, s, n, rfl, HFO.out, HLI.out, HCT.out, h1, h2, HBW.out⟩
  have HBAD : Hid (¬ (ShapeP ps words r ∧ AllR f rc s r ps r) → CheckP f r ps words w (.returned (.int .i64 5)) W1) := Lib.hid fun h1 => HEND.out 5 (.inr rfl) ⟨fun h => by omega, fun h => absurd h h1⟩
  generalize w1.heap.size = kb at *
  clear c0 c1 c2 c3 c4 b0 b1 HKN HAL HV HA9 HV1 HA1 HKA HB1 HP
  have HCB : Hid (∀ a, ∀ q ∈ clK f rc s a, 0 ≤ q ∧ q < (r : Int)) := Lib.hid fun a q hq => list_bd (HCT.out a) hq
  by_cases hlr : ps.length = r
  · by_cases hw0 : 0 ≤ words
    · by_cases hw4 : words ≤ 4096
      · have q1 : ((ps.length : Int) != (r : Int)) = false := by simp; omega
        have HPL := Lib.hid hlr
        have HSH : Hid (Pre words ps ps.length → ShapeP ps words r) := Lib.hid fun h => ⟨hlr, hw0, hw4, fun p hp => h p (by rw [List.take_length]; exact hp)⟩
        have HNS : Hid (∀ p ∈ ps, ¬ okP words p → CheckP f r ps words w (.returned (.int .i64 5)) W1) := Lib.hid fun p hp hn => HBAD.out fun h => hn (h.1.2.2.2 p hp)
        clear hlr
        go_wp2_with fail
        go_loopg [37] ps.length (fun N t wr => ∃ j, j ≤ ps.length ∧ N = ps.length - j ∧ t = .int .i64 j ∧ W1 = wr ∧ Pre words ps j)
        case atStart => exact ⟨0, by omega, rfl, rfl, rfl, fun q hq => by simp at hq⟩
        case round =>
          obtain ⟨j, hj, rfl, rfl, rfl, hpre⟩ := hrel
          by_cases hlj : j < ps.length
          · have hljI : (j : Int) < (ps.length : Int) := by omega
            obtain ⟨ad, p2, p, rfl, hpe, hp2, -, d0⟩ := rd_int HP1.out hlj
            have HNP := Lib.hid (HNS.out p (List.mem_of_getElem? hpe))
            have HSN := Lib.hid (fun ho => hpre.snoc hpe ho)
            clear hpre hpe
            by_cases hok : okP words p
            · have HP2 := Lib.hid (HSN.out hok)
              obtain ⟨o1, o2, o3⟩ := hok
              have hcs : p ≤ 3 ∨ (4 ≤ p ∧ p ≤ 10) ∨ 16 ≤ p := by omega
              rcases hcs with h9 | ⟨h8, h9⟩ | h9
              all_goals
                clear o2
                go_wp2_with fail
                go_roundg (ps.length - (j + 1))
                case measure => omega
                case rel => exact ⟨j + 1, by omega, rfl, by go_num, rfl, HP2.out⟩
            · have HE := Lib.hid (HNP.out hok)
              have hcs : p < -1 ∨ (11 ≤ p ∧ p < 16) ∨ (16 ≤ p ∧ 16 + words ≤ p) ∨ (-1 ≤ p ∧ p ≤ 3 ∧ 16 + words ≤ p) ∨ (4 ≤ p ∧ p ≤ 10 ∧ 16 + words ≤ p) := by unfold okP at hok; omega
              clear hok
              rcases hcs with h9 | ⟨h8, h9⟩ | ⟨h8, h9⟩ | ⟨h7, h8, h9⟩ | ⟨h7, h8, h9⟩
              all_goals
                try (exfalso; omega)
              all_goals
                go_wp2_with fail
                go_ret
                exact HE.out
          · obtain rfl : j = ps.length := by omega
            have HS2 := Lib.hid (HSH.out hpre)
            clear hpre HSH HNS
            go_wp2_with fail
            go_loopg [70] ps.length (fun N t wr => ∃ j, j ≤ ps.length ∧ N = ps.length - j ∧ t = .int .i64 j ∧ W1 = wr ∧ AllR f rc s r ps j)
            case atStart => exact ⟨0, by omega, rfl, rfl, rfl, fun q hq => by omega⟩
            case round =>
              obtain ⟨j, hj, rfl, rfl, rfl, hall⟩ := hrel
              by_cases hlj : j < ps.length
              · have hljI : (j : Int) < (ps.length : Int) := by omega
                have hri : Calls Tryz.prog 39 #[.pointer (some ⟨kb, 0, none⟩), .slice PA ps.length pc, .int .i64 j] W1 (SaysR (RightP (clK f rc s) (nots r (needs f.bl rc s f.bl.length)) (marks r (acL f rc s (anl f rc s r f.bl.length))) (wdL f rc s r (anl f rc s r f.bl.length)) r ps j) W1) := by
                  have h9 := right_39 HK1.out HKB.out ps HPL.out (pc := pc) HP1.out (i := j) (by have := HPL.out; omega) hr4 HCB.out (fun a => list_len _) (nots_length _ _) (marks_length _ _)
                  rw [HPL.out]
                  exact h9
                by_cases hR : RightP (clK f rc s) (nots r (needs f.bl rc s f.bl.length)) (marks r (acL f rc s (anl f rc s r f.bl.length))) (wdL f rc s r (anl f rc s r f.bl.length)) r ps j
                · have hrt := hri.mono (fun e w' (he : SaysR _ _ e w') => (show e = .returned (.bool true) ∧ w' = W1 by obtain ⟨b, rfl, hb, rfl⟩ := he; exact ⟨by rw [hb.2 hR], rfl⟩))
                  have HRT := Lib.hid hrt
                  have HAL2 := Lib.hid (hall.snoc hR)
                  clear hall hri hrt hR
                  go_wp2_with (go_at_call 39; go_loud ((refine HRT.out.mono ?_; rintro e w5 ⟨rfl, rfl⟩)))
                  go_roundg (ps.length - (j + 1))
                  case measure => omega
                  case rel => exact ⟨j + 1, by omega, rfl, by go_num, rfl, HAL2.out⟩
                · have hrt := hri.mono (fun e w' (he : SaysR _ _ e w') => (show e = .returned (.bool false) ∧ w' = W1 by obtain ⟨b, rfl, hb, rfl⟩ := he; exact ⟨by cases b with | false => rfl | true => exact absurd (hb.1 rfl) hR, rfl⟩))
                  have HRT := Lib.hid hrt
                  have HE := Lib.hid (HBAD.out fun h => hR (h.2 j (by have := HPL.out; omega)))
                  clear hall hri hrt hR
                  go_wp2_with (go_at_call 39; go_loud ((refine HRT.out.mono ?_; rintro e w5 ⟨rfl, rfl⟩)))
                  go_ret
                  exact HE.out
              · obtain rfl : j = ps.length := by omega
                have HE := Lib.hid (HEND.out 0 (.inl rfl) ⟨fun _ => ⟨HS2.out, by have h9 := HPL.out; rw [h9] at hall; exact hall⟩, fun _ => rfl⟩)
                clear hall
                go_wp2_with fail
                go_ret
                exact HE.out
      · have HE := Lib.hid (HBAD.out (fun h => hw4 h.1.2.2.1))
        have q1 : ((ps.length : Int) != (r : Int)) = false := by simp; omega
        have hw5 : 4096 < words := by omega
        clear hw4 hlr
        go_wp2_with fail
        go_ret
        exact HE.out
    · have HE := Lib.hid (HBAD.out (fun h => hw0 h.1.2.1))
      have q1 : ((ps.length : Int) != (r : Int)) = false := by simp; omega
      have hw5 : words < 0 := by omega
      clear hw0 hlr
      go_wp2_with fail
      go_ret
      exact HE.out
  · have HE := Lib.hid (HBAD.out (fun h => hlr h.1.1))
    have q1 : ((ps.length : Int) != (r : Int)) = true := by simp; omega
    clear hlr
    go_wp2_with fail
    go_ret
    exact HE.out
end Go.Proofs.YthgbmhpfblgjcaaGreatDoor.fl
namespace Go.Proofs.YthgbmhpfblgjcaaGreatDoor.fl
open Go.RowKit Go.Shelf
open M T ty
set_option linter.unusedVariables false
/-! clashes go both ways -/
def SymC (C : Cl) : Prop := ∀ k j, (C k).testBit j = true → (C j).testBit k = true
theorem SymC.both {C : Cl} (h : SymC C) (d x : Nat) : SymC ((C.put d x).put x d) := fun k j hk => by
  rw [put_bit, put_bit] at hk ⊢
  simp only [Bool.or_eq_true, Bool.and_eq_true, decide_eq_true_eq] at hk ⊢
  rcases hk with (hk | ⟨rfl, rfl⟩) | ⟨rfl, rfl⟩
  · exact .inl (.inl (h k j hk))
  · exact .inr ⟨rfl, rfl⟩
  · exact .inl (.inr ⟨rfl, rfl⟩)
theorem SymC.wr1 {C : Cl} (h : SymC C) (d : Nat) (but x : Int) : SymC (fl.wr1 d but C x) := by
  unfold fl.wr1
  split
  · exact h.both d x.toNat
  · exact h
theorem SymC.wr {C : Cl} (h : SymC C) (d : Nat) (but : Int) (m : Nat) : SymC (fl.wr d but m C) := by
  unfold fl.wr
  have key : ∀ (l : List Int) (C : Cl), SymC C → SymC (l.foldl (fl.wr1 d but) C) := by
    intro l
    induction l with
    | nil => intro C hC; exact hC
    | cons x l ih => intro C hC; exact ih _ (hC.wr1 d but x)
  exact key _ C h
theorem clash_sym (p : Nat) (bl : List Bl) (rc : List Bool) (s : Ins) : SymC (clash p bl rc s) := by
  have h1 : SymC (cl1 bl rc s) := by
    unfold cl1
    have key : ∀ (l : List (Op × Nat)) (C : Cl), SymC C → SymC (l.foldl clEv C) := by
      intro l
      induction l with
      | nil => intro C hC; exact hC
      | cons e l ih =>
        intro C hC
        refine ih _ ?_
        unfold clEv
        split
        · exact hC
        · exact hC.wr _ _ _
    exact key _ _ (fun k j h => by rw [Nat.zero_testBit] at h; cases h)
  have h2 : SymC (cl2 bl rc s) := by
    unfold cl2
    have key : ∀ (l : List Nat) (C : Cl), SymC C → SymC (l.foldl (clSet bl rc s) C) := by
      intro l
      induction l with
      | nil => intro C hC; exact hC
      | cons i l ih =>
        intro C hC
        refine ih _ ?_
        unfold clSet
        split
        · split
          · exact (hC.wr _ _ _).wr _ _ _
          · exact hC
        · exact hC
    exact key _ _ h1
  unfold clash
  have key : ∀ (l : List Nat) (C : Cl), SymC C → SymC (l.foldl (clPar s) C) := by
    intro l
    induction l with
    | nil => intro C hC; exact hC
    | cons i l ih =>
      intro C hC
      refine ih _ ?_
      unfold clPar
      split
      · exact hC.wr _ _ _
      · exact hC
  exact key _ _ h2
theorem mem_list_nat {m b : Nat} : ((b : Nat) : Int) ∈ list m ↔ b < 4096 ∧ m.testBit b = true := by
  unfold list
  simp only [List.mem_map, List.mem_filter, List.mem_range]
  constructor
  · rintro ⟨j, hj, e⟩
    have : j = b := Int.ofNat.inj e
    subst this
    exact hj
  · exact fun h => ⟨b, h, rfl⟩
theorem clK_sym (f : Fn) (rc : List Bool) (s : Ins) {a b : Nat} (ha : a < 4096) (h : (b : Int) ∈ clK f rc s a) : (a : Int) ∈ clK f rc s b := by
  unfold clK at h ⊢
  exact mem_list_nat.2 ⟨ha, clash_sym _ _ _ _ _ _ (mem_list_nat.1 h).2⟩
theorem clK_lt {f : Fn} {rc : List Bool} {s : Ins} {r : Nat} (hct : ∀ k, clash f.params.toNat f.bl rc s k < 2 ^ r) (a : Nat) : ∀ x ∈ clK f rc s a, 0 ≤ x ∧ x < (r : Int) := fun x hx => list_bd (hct a) hx
/-! pairs that must not share a word -/
theorem mem_wd1 {cl : Nat → List Int} {n : Nat} {p : Int × Int} : p ∈ wd1 cl n ↔ ∃ a : Nat, a < n ∧ p.1 = a ∧ p.2 ∈ cl a := by
  refine ⟨wd1_lt, fun ⟨a, ha, e, hm⟩ => ?_⟩
  unfold wd1
  exact List.mem_flatMap.2 ⟨a, List.mem_range.2 ha, List.mem_map.2 ⟨p.2, hm, by rw [← e]⟩⟩
theorem mem_wpairs {kept risky w : List Int} {p : Int × Int} : p ∈ wpairs kept risky w ↔ ∃ k ∈ kept, k ∉ risky ∧ ∃ s ∈ w, s ≠ k ∧ (p = (k, s) ∨ p = (s, k)) := by
  unfold wpairs wp1
  rw [List.mem_flatMap]
  constructor
  · rintro ⟨k, hk, hp⟩
    split at hp
    · cases hp
    · rename_i hr
      obtain ⟨s, hs, hp⟩ := List.mem_flatMap.1 hp
      split at hp
      · rename_i hne
        refine ⟨k, hk, hr, s, hs, hne, ?_⟩
        simpa using hp
      · cases hp
  · rintro ⟨k, hk, hr, s, hs, hne, hp⟩
    refine ⟨k, hk, ?_⟩
    rw [if_neg hr]
    refine List.mem_flatMap.2 ⟨s, hs, ?_⟩
    rw [if_pos hne]
    simpa using hp
theorem mem_wdT {f : Fn} {r : Nat} {t : Tw} {p : Int × Int} : p ∈ wdT f r t ↔ ∃ x, f.bl[t.1]? = some x ∧ ∃ k ∈ t.2.1, k ∉ t.2.2 ∧ ∃ s ∈ trues (btwOf f.bl x.ex r) r, s ≠ k ∧ (p = (k, s) ∨ p = (s, k)) := by
  unfold wdT
  cases hx : f.bl[t.1]? with
  | none => simp
  | some x => simp only [mem_wpairs, Option.some.injEq, exists_eq_left']
theorem mem_wdL {f : Fn} {rc : List Bool} {s : Ins} {r : Nat} {ts : List Tw} {p : Int × Int} : p ∈ wdL f rc s r ts ↔ (∃ a : Nat, a < r ∧ p.1 = a ∧ p.2 ∈ clK f rc s a) ∨ ∃ t ∈ ts, p ∈ wdT f r t := by
  unfold wdL
  rw [List.mem_append, mem_wd1, List.mem_flatMap]
/-- what an allocation asks of the facts -/
structure Fct (cl : Nat → List Int) (L : Prs) (r : Nat) : Prop where
  bd : ∀ a, ∀ s ∈ cl a, 0 ≤ s ∧ s < (r : Int)
  sym : ∀ a b : Nat, a < r → (b : Int) ∈ cl a → (a : Int) ∈ cl b
  irr : ∀ a : Nat, (a : Int) ∉ cl a
  lsym : ∀ a b : Nat, a < r → b < r → ((a : Int), (b : Int)) ∈ L → ((b : Int), (a : Int)) ∈ L
  lirr : ∀ a : Nat, ((a : Int), (a : Int)) ∉ L
theorem facts_ok {f : Fn} {rc : List Bool} {s : Ins} {r : Nat} (hr : r ≤ 4096) (hct : ∀ k, clash f.params.toNat f.bl rc s k < 2 ^ r) (ts : List Tw) : Fct (clK f rc s) (wdL f rc s r ts) r := by
  refine ⟨clK_lt hct, fun a b ha h => clK_sym f rc s (by omega) h, clK_irr f rc s, fun a b ha hb h => ?_, fun a h => ?_⟩
  · rw [mem_wdL] at h ⊢
    rcases h with ⟨a', ha', e, hm⟩ | ⟨t, ht, hp⟩
    · have e2 : a = a' := by have e3 : (a : Int) = a' := e; omega
      subst e2
      exact .inl ⟨b, hb, rfl, clK_sym f rc s (by omega) hm⟩
    · refine .inr ⟨t, ht, ?_⟩
      rw [mem_wdT] at hp ⊢
      obtain ⟨x, hx, k, hk, hn, s', hs, hne, hp⟩ := hp
      refine ⟨x, hx, k, hk, hn, s', hs, hne, ?_⟩
      rcases hp with e | e
      · injection e with e1 e2
        exact .inr (by rw [e1, e2])
      · injection e with e1 e2
        exact .inl (by rw [e1, e2])
  · rw [mem_wdL] at h
    rcases h with ⟨a', ha', e, hm⟩ | ⟨t, ht, hp⟩
    · have e2 : a = a' := by have e3 : (a : Int) = a' := e; omega
      subst e2
      exact clK_irr f rc s _ hm
    · rw [mem_wdT] at hp
      obtain ⟨x, hx, k, hk, hn, s', hs, hne, hp⟩ := hp
      rcases hp with e | e
      · injection e with e1 e2
        exact hne (e2.symm.trans e1)
      · injection e with e1 e2
        exact hne (e1.symm.trans e2)
/-- under way: those below i are right among all -/
structure Inv (cl : Nat → List Int) (L : Prs) (nv ac : List Bool) (r i : Nat) (ps : List Int) : Prop where
  rest : ∀ a : Nat, i ≤ a → a < r → atP ps a = -1
  nev : ∀ a : Nat, a < i → atP ps a < 0 → nv[a]? = some true
  acr : ∀ a : Nat, a < r → 0 ≤ atP ps a → ¬ (atP ps a ≤ 3 ∧ ac[a]? = some true)
  cla : ∀ a b : Nat, a < r → b < r → 0 ≤ atP ps a → (b : Int) ∈ cl a → atP ps b ≠ atP ps a
  wor : ∀ a b : Nat, a < r → b < r → 16 ≤ atP ps a → ((a : Int), (b : Int)) ∈ L → atP ps b ≠ atP ps a
theorem Inv.right {cl : Nat → List Int} {L : Prs} {nv ac : List Bool} {r : Nat} {ps : List Int} (h : Inv cl L nv ac r r ps) (hc : Fct cl L r) (i : Nat) (hi : i < r) : RightP cl nv ac L r ps i := by
  refine ⟨h.nev i hi, fun h0 => ⟨h.acr i hi h0, fun s hs => ?_, fun h16 s hs hm => h.wor i s hi hs h16 hm⟩⟩
  obtain ⟨s0, s1⟩ := hc.bd i s hs
  obtain ⟨q, rfl⟩ := Int.eq_ofNat_of_zero_le s0
  exact h.cla i q hi (by omega) h0 hs
theorem asg_right {cl : Nat → List Int} {L : Prs} {nv ac : List Bool} {r : Nat} (hc : Fct cl L r) (hac : ac.length = r) (hnv : nv.length = r) : ∀ i, i ≤ r → Inv cl L nv ac r i (asg cl L nv ac r i).1
  | 0, _ => by
    have h0 : ∀ a : Nat, a < r → atP (asg cl L nv ac r 0).1 a = -1 := fun a ha => by simp [asg, atP, List.getElem?_replicate, ha]
    exact ⟨fun a _ ha => h0 a ha, fun a ha => absurd ha (Nat.not_lt_zero _), fun a ha h => by rw [h0 a ha] at h; omega, fun a b ha _ h => by rw [h0 a ha] at h; omega, fun a b ha _ h => by rw [h0 a ha] at h; omega⟩
  | i + 1, hi => by
    have ih := asg_right (nv := nv) (ac := ac) hc hac hnv i (by omega)
    obtain ⟨⟨h1, h2⟩, h3⟩ := asg_in (L := L) (nv := nv) (ac := ac) hc.bd i (by omega)
    unfold asg
    split
    · rename_i hn
      refine ⟨fun a ha => ih.rest a (by omega), fun a ha h => ?_, ih.acr, ih.cla, ih.wor⟩
      rcases Nat.lt_or_ge a i with hlt | hge
      · exact ih.nev a hlt h
      · obtain rfl : a = i := by omega
        have hg : nv[a]? = some (nv[a]'(by omega)) := List.getElem?_eq_getElem _
        rw [hg] at hn ⊢
        simpa using hn
    · generalize asg cl L nv ac r i = q at *
      obtain ⟨p1, p2, p3, p4⟩ := place_ok (acr := ac[i]?.getD false) (taken_length cl L r q.1 q.2 i) (taken_last (L := L) (i := i) hc.bd h2)
      generalize hpp : placeOf (takenL cl L r q.1 q.2 i) (ac[i]?.getD false) = p at *
      have hfree : ((p : Nat) : Int) ∉ tk1 cl q.1 i (cl i).length ++ tk2 L q.1 i r := by
        unfold takenL at p1
        rw [marks_get _ _ _ (by omega)] at p1
        simpa using p1
      have hat : ∀ s : Nat, atP (q.1.set i (p : Int)) s = if s = i then (p : Int) else atP q.1 s := fun s => atP_set (by omega)
      have hf1 : ∀ b : Nat, (b : Int) ∈ cl i → atP q.1 b ≠ (p : Int) := fun b hb e => hfree (List.mem_append_left _ (by
        unfold tk1
        rw [List.take_length]
        exact List.mem_map.2 ⟨b, hb, e⟩))
      have hf2 : ∀ b : Nat, b < r → ((i : Int), (b : Int)) ∈ L → 16 ≤ atP q.1 b → atP q.1 b ≠ (p : Int) := fun b hb hm h16 e => hfree (List.mem_append_right _ (by
        unfold tk2
        exact List.mem_map.2 ⟨b, List.mem_filter.2 ⟨List.mem_range.2 hb, by simp [hm, h16]⟩, e⟩))
      simp only
      refine ⟨fun a ha hr => ?_, fun a ha h => ?_, fun a ha h => ?_, fun a b ha hb h hm => ?_, fun a b ha hb h hm => ?_⟩
      · rw [hat, if_neg (by omega)]
        exact ih.rest a (by omega) hr
      · rw [hat] at h
        split at h
        · omega
        · exact ih.nev a (by omega) h
      · rw [hat] at h ⊢
        split at h
        · rename_i e
          subst e
          rw [if_pos rfl]
          rintro ⟨e1, e2⟩
          have := p2 (by omega)
          rw [e2] at this
          cases this
        · rename_i e
          rw [if_neg e]
          exact ih.acr a ha h
      · rw [hat, hat]
        rw [hat] at h
        by_cases ea : a = i
        · subst ea
          rw [if_pos rfl]
          rw [if_neg (fun e => hc.irr a (by rw [e] at hm; exact hm))]
          exact hf1 b hm
        · rw [if_neg ea] at h ⊢
          by_cases eb : b = i
          · subst eb
            rw [if_pos rfl]
            exact (hf1 a (hc.sym a b ha hm)).symm
          · rw [if_neg eb]
            exact ih.cla a b ha hb h hm
      · rw [hat, hat]
        rw [hat] at h
        by_cases ea : a = i
        · subst ea
          rw [if_pos rfl] at h ⊢
          rw [if_neg (fun e => hc.lirr a (by rw [e] at hm; exact hm))]
          intro e
          exact hf2 b hb hm (by omega) e
        · rw [if_neg ea] at h ⊢
          by_cases eb : b = i
          · subst eb
            rw [if_pos rfl]
            exact fun e => hf2 a ha (hc.lsym a b ha hb hm) h e.symm
          · rw [if_neg eb]
            exact ih.wor a b ha hb h hm
theorem asgK_right {f : Fn} {rc : List Bool} {s : Ins} {r : Nat} (hr : r ≤ 4096) (hct : ∀ k, clash f.params.toNat f.bl rc s k < 2 ^ r) : AllR f rc s r (asgK f rc s r r).1 r := fun i hi =>
  (asg_right (facts_ok hr hct _) (marks_length _ _) (nots_length _ _) r (Nat.le_refl _)).right (facts_ok hr hct _) i hi
theorem asgK_in {f : Fn} {rc : List Bool} {s : Ins} {r : Nat} (hct : ∀ k, clash f.params.toNat f.bl rc s k < 2 ^ r) : InW r (asgK f rc s r r) ∧ (asgK f rc s r r).2 ≤ r := asg_in (clK_lt hct) r (Nat.le_refl _)
/-- places lie in the machine's registers that may be had, or in a word -/
theorem asg_ok {cl : Nat → List Int} {L : Prs} {nv ac : List Bool} {r : Nat} (hcl : ∀ a, ∀ s ∈ cl a, 0 ≤ s ∧ s < (r : Int)) : ∀ i, i ≤ r → ∀ s : Nat, s < r → atP (asg cl L nv ac r i).1 s ≤ 10 ∨ 16 ≤ atP (asg cl L nv ac r i).1 s
  | 0, _ => fun s hs => by simp [asg, atP, List.getElem?_replicate, hs]
  | i + 1, hi => fun s hs => by
    have ih := asg_ok (L := L) (nv := nv) (ac := ac) hcl i (by omega) s hs
    obtain ⟨⟨h1, h2⟩, h3⟩ := asg_in (L := L) (nv := nv) (ac := ac) hcl i (by omega)
    unfold asg
    split
    · exact ih
    · generalize asg cl L nv ac r i = q at *
      obtain ⟨-, -, p3, p4⟩ := place_ok (acr := ac[i]?.getD false) (taken_length cl L r q.1 q.2 i) (taken_last (L := L) (i := i) hcl h2)
      generalize placeOf (takenL cl L r q.1 q.2 i) (ac[i]?.getD false) = p at *
      simp only
      rw [atP_set (by omega)]
      split
      · omega
      · exact ih
theorem atP_mem {ps : List Int} {p : Int} (h : p ∈ ps) : ∃ s : Nat, s < ps.length ∧ atP ps s = p := by
  obtain ⟨s, hs, e⟩ := List.mem_iff_getElem.1 h
  exact ⟨s, hs, atP_get (by rw [List.getElem?_eq_getElem hs, e])⟩
theorem asgK_shape {f : Fn} {rc : List Bool} {s : Ins} {r : Nat} (hr : r ≤ 4096) (hct : ∀ k, clash f.params.toNat f.bl rc s k < 2 ^ r) : ShapeP (asgK f rc s r r).1 ((asgK f rc s r r).2 : Int) r := by
  obtain ⟨⟨h1, h2⟩, h3⟩ := asgK_in hct
  refine ⟨h1, by omega, by omega, fun p hp => ?_⟩
  obtain ⟨q, hq, rfl⟩ := atP_mem hp
  have := h2 q (by omega)
  exact ⟨this.1, asg_ok (clK_lt hct) r (Nat.le_refl _) q (by omega), this.2⟩
/-! each register that needs a place in a word of its own -/
def exW (nv : List Bool) : Nat → List Int × Nat
  | 0 => ([], 0)
  | i + 1 => if nv[i]?.getD false = true then ((exW nv i).1 ++ [-1], (exW nv i).2) else ((exW nv i).1 ++ [16 + ((exW nv i).2 : Int)], (exW nv i).2 + 1)
theorem atP_app {ps : List Int} {p : Int} (s : Nat) (h : s ≤ ps.length) : atP (ps ++ [p]) s = if s = ps.length then p else atP ps s := by
  unfold atP
  rw [Int.toNat_natCast]
  by_cases e : s = ps.length
  · subst e
    rw [if_pos rfl, List.getElem?_append_right (Nat.le_refl _)]
    simp
  · rw [if_neg e, List.getElem?_append_left (by omega)]
structure ExI (nv : List Bool) (i : Nat) (q : List Int × Nat) : Prop where
  len : q.1.length = i
  wd : q.2 ≤ i
  pl : ∀ a : Nat, a < i → (atP q.1 a = -1 ∧ nv[a]?.getD false = true) ∨ (16 ≤ atP q.1 a ∧ atP q.1 a < 16 + (q.2 : Int))
  inj : ∀ a b : Nat, a < i → b < i → a ≠ b → 0 ≤ atP q.1 a → atP q.1 b ≠ atP q.1 a
theorem exW_is (nv : List Bool) : ∀ i, ExI nv i (exW nv i)
  | 0 => ⟨rfl, Nat.le_refl _, fun a h => absurd h (Nat.not_lt_zero _), fun a b h => absurd h (Nat.not_lt_zero _)⟩
  | i + 1 => by
    have ih := exW_is nv i
    unfold exW
    generalize exW nv i = q at *
    obtain ⟨hl, hw, hp, hj⟩ := ih
    split
    · rename_i hn
      refine ⟨by simp [hl], by simp only; omega, fun a ha => ?_, fun a b ha hb hne h0 => ?_⟩
      · simp only
        rw [atP_app a (by omega)]
        split
        · rename_i e
          rw [hl] at e
          subst e
          exact .inl ⟨rfl, hn⟩
        · exact hp a (by omega)
      · simp only at h0 ⊢
        rw [atP_app a (by omega)] at h0 ⊢
        rw [atP_app b (by omega)]
        split at h0
        · omega
        · rename_i ea
          rw [if_neg ea]
          split
          · omega
          · exact hj a b (by omega) (by omega) hne h0
    · rename_i hn
      refine ⟨by simp [hl], by simp only; omega, fun a ha => ?_, fun a b ha hb hne h0 => ?_⟩
      · simp only
        rw [atP_app a (by omega)]
        split
        · exact .inr ⟨by omega, by omega⟩
        · rcases hp a (by omega) with h | h
          · exact .inl h
          · exact .inr ⟨h.1, by omega⟩
      · simp only at h0 ⊢
        rw [atP_app a (by omega)] at h0 ⊢
        rw [atP_app b (by omega)]
        split at h0
        · rename_i ea
          rw [if_pos ea, if_neg (by omega)]
          have := hp b (by omega)
          omega
        · rename_i ea
          rw [if_neg ea]
          split
          · have := hp a (by omega)
            omega
          · exact hj a b (by omega) (by omega) hne h0
theorem exW_right {cl : Nat → List Int} {L : Prs} {nv ac : List Bool} {r : Nat} (hc : Fct cl L r) (hnv : nv.length = r) (i : Nat) (hi : i < r) : RightP cl nv ac L r (exW nv r).1 i := by
  obtain ⟨hl, hw, hp, hj⟩ := exW_is nv r
  refine ⟨fun h => ?_, fun h0 => ⟨fun h => ?_, fun s hs => ?_, fun h16 s hs hm => hj i s hi hs (fun e => hc.lirr i (by rw [← e] at hm; exact hm)) h0⟩⟩
  · rcases hp i hi with h1 | h1
    · have hg : nv[i]? = some (nv[i]'(by omega)) := List.getElem?_eq_getElem _
      rw [hg] at h1 ⊢
      simpa using h1.2
    · omega
  · rcases hp i hi with h1 | h1 <;> omega
  · obtain ⟨s0, s1⟩ := hc.bd i s hs
    obtain ⟨q, rfl⟩ := Int.eq_ofNat_of_zero_le s0
    exact hj i q hi (by omega) (fun e => hc.irr i (by rw [← e] at hs; exact hs)) h0
theorem exW_all {f : Fn} {rc : List Bool} {s : Ins} {r : Nat} (hr : r ≤ 4096) (hct : ∀ k, clash f.params.toNat f.bl rc s k < 2 ^ r) : AllR f rc s r (exW (nots r (needs f.bl rc s f.bl.length)) r).1 r := fun i hi =>
  exW_right (facts_ok hr hct _) (nots_length _ _) i hi
theorem exW_shape (nv : List Bool) {r : Nat} (hr : r ≤ 4096) : ShapeP (exW nv r).1 ((exW nv r).2 : Int) r := by
  obtain ⟨hl, hw, hp, hj⟩ := exW_is nv r
  refine ⟨hl, by omega, by omega, fun p h => ?_⟩
  obtain ⟨q, hq, rfl⟩ := atP_mem h
  rcases hp q (by omega) with h1 | h1
  · exact ⟨by omega, .inl (by omega), by omega⟩
  · exact ⟨by omega, .inr h1.1, h1.2⟩
end Go.Proofs.YthgbmhpfblgjcaaGreatDoor.fl
