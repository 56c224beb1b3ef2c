/-
  The contracts of assigned and Assign of package alloc. Condition: the function stands.
-/
import Derived.Test.YthgbmhpfblgjcaaGreatDoorAlD
import Derived.Test.YthgbmhpfblgjcaaGreatDoorAlI
set_option linter.unusedVariables false
set_option linter.unusedSimpArgs false
namespace Go.Proofs.YthgbmhpfblgjcaaGreatDoor.fl
open Go.RowKit Go.Shelf
open M T ty
set_option linter.unusedVariables false
/-- what stands, be the function right or not -/
structure Lies (w : World) (f : Fn) (L : FLay) : Prop where
  fn : FnAt w w.heap.size f L
  tabs : Tabs w
  fits : Fits f
theorem Lies.after {w W : World} {f : Fn} {L : FLay} (h : Lies w f L) (hb : Below w.heap.size w W) : Lies W f L := ⟨h.fn.after hb, h.tabs.after hb, h.fits⟩
theorem Lies.stands {w : World} {f : Fn} {L : FLay} (h : Lies w f L) (hok : fnB 4611686018427387904 f = true) : Stands w f L f.regs.toNat := ⟨h.fn, h.tabs, h.fits, hok, (Int.toNat_of_nonneg (good_of hok).r0).symm⟩
theorem Stands.lies {w : World} {f : Fn} {L : FLay} {r : Nat} (h : Stands w f L r) : Lies w f L := ⟨h.fn, h.tabs, h.fits⟩
set_option maxRecDepth 20000 in
set_option maxHeartbeats 4000000 in
theorem known_no (f : Fn) (L : FLay) (w : World) (h : Lies w f L) (hno : fnB 4611686018427387904 f = false) :
    Calls Tryz.prog 38 #[fnV f L] w fun e w' => e = .returned (.tuple #[.agg #[.slice none 0 0, .slice none 0 0, .slice none 0 0, .slice none 0 0], .int .i64 180]) ∧ Below w.heap.size w w' := by
  have HAL : Hid (Below w.heap.size w ((w.alloc (FObj f L)).alloc (.cells #[.slice none 0 0, .slice none 0 0, .slice none 0 0, .slice none 0 0] 98))) := Lib.hid (((Below.refl _ _).alloc (Nat.le_refl _) _).alloc (by simp) _)
  have hb2 := h.after HAL.out
  have HCF := Lib.hid (CheckFunc_58 f L _ hb2.fn hb2.tabs.keys (by have := hb2.fits.name; simp only [maxLen]; omega) hb2.fits.fit)
  rw [hno, if_neg (by decide)] at HCF
  have HR9 : Hid (((w.alloc (FObj f L)).alloc (.cells #[.slice none 0 0, .slice none 0 0, .slice none 0 0, .slice none 0 0] 98)).heap[w.heap.size + 1]? = some (.cells #[.slice none 0 0, .slice none 0 0, .slice none 0 0, .slice none 0 0] 98 (0, 0))) := Lib.hid (by have := heap_alloc_new (w.alloc (FObj f L)) (.cells #[.slice none 0 0, .slice none 0 0, .slice none 0 0, .slice none 0 0] 98); rw [World.size_alloc] at this; exact this)
  clear h hb2 hno
  obtain ⟨SA, sc, BA, bc, OA, oc, AA, ac⟩ := L
  unfold fnV at HCF ⊢
  unfold FObj at HCF HAL HR9
  simp only at HCF HAL HR9 ⊢
  go_enter Tryz.func38, Tryz.ntmps38
  go_wp2_with (go_at_call 58; go_loud ((refine HCF.out.mono ?_; rintro e w1 ⟨rfl, hb1⟩; have hr1 := (hb1.block (w.heap.size + 1) (by simp)).trans HR9.out; have r0 := Go.Joins.cell_of_block hr1 0; have r1 := Go.Joins.cell_of_block hr1 1; have r2 := Go.Joins.cell_of_block hr1 2; have r3 := Go.Joins.cell_of_block hr1 3; have g0 := Go.Joins.unfrozen_of_block hr1 0; have g1 := Go.Joins.unfrozen_of_block hr1 1; have g2 := Go.Joins.unfrozen_of_block hr1 2; have g3 := Go.Joins.unfrozen_of_block hr1 3; have HB1 := Lib.hid (HAL.out.trans (hb1.mono HAL.out.size)); clear hb1 hr1)))
  try simp only [Exit.inBlock, Exit.then]
  refine bodyPost_ret (v := .tuple #[.agg #[.slice none 0 0, .slice none 0 0, .slice none 0 0, .slice none 0 0], .int .i64 180]) (by rw [results_cell_tmp rfl]; go_simp) rfl ?_
  exact ⟨rfl, (((HB1.out.setCell (p := ⟨w.heap.size + 1, 0, none⟩) (Nat.le_succ _) (.slice none 0 0)).setCell (p := ⟨w.heap.size + 1, 1, none⟩) (Nat.le_succ _) (.slice none 0 0)).setCell (p := ⟨w.heap.size + 1, 2, none⟩) (Nat.le_succ _) (.slice none 0 0)).setCell (p := ⟨w.heap.size + 1, 3, none⟩) (Nat.le_succ _) (.slice none 0 0)⟩
set_option maxRecDepth 20000 in
set_option maxHeartbeats 4000000 in
theorem Never_no (f : Fn) (L : FLay) (w : World) (h : Lies w f L) (hno : fnB 4611686018427387904 f = false) :
    Calls Tryz.prog 17 #[fnV f L] w fun e w' => e = .returned (.tuple #[.slice none 0 0, .int .i64 180]) ∧ Below w.heap.size w w' := by
  have HAL : Hid (Below w.heap.size w (w.alloc (FObj f L))) := Lib.hid ((Below.refl _ _).alloc (Nat.le_refl _) _)
  have HK := Lib.hid (known_no f L _ (h.after HAL.out) hno)
  clear h hno
  obtain ⟨SA, sc, BA, bc, OA, oc, AA, ac⟩ := L
  unfold fnV at HK ⊢
  unfold FObj at HK HAL
  simp only at HK HAL ⊢
  go_enter Tryz.func17, Tryz.ntmps17
  go_wp2_with (go_at_call 38; go_loud ((refine HK.out.mono ?_; rintro e w1 ⟨rfl, hb1⟩; have HB1 := Lib.hid (HAL.out.trans (hb1.mono HAL.out.size)); clear hb1)))
  go_ret2
  exact ⟨rfl, HB1.out.alloc HB1.out.size _⟩
def NeverP (f : Fn) (r : Nat) (w : World) (e : Ending) (w' : World) : Prop := ∃ rc s v, e = .returned (.tuple #[v, .int .i64 0]) ∧ IntsAt w' w.heap.size v (trues (nots r (needs f.bl rc s f.bl.length)) r) ∧ Found (tos f.bl) (-1) 0 rc ∧ Lives (tos f.bl) f.bl rc s ∧ Below w.heap.size w w'
set_option maxRecDepth 20000 in
set_option maxHeartbeats 8000000 in
theorem Never_17 (f : Fn) (L : FLay) (r : Nat) (w : World) (h : Stands w f L r) :
    Calls Tryz.prog 17 #[fnV f L] w (NeverP f r w) := by
  have HAL : Hid (Below w.heap.size w (w.alloc (FObj f L))) := Lib.hid ((Below.refl _ _).alloc (Nat.le_refl _) _)
  have HK := Lib.hid (known_38 f L r _ (h.after HAL.out))
  have hr4 := h.r4
  have hrI : (r : Int) ≤ 4096 := by omega
  clear h
  obtain ⟨SA, sc, BA, bc, OA, oc, AA, ac⟩ := L
  unfold fnV at HK ⊢
  unfold FObj at HK HAL
  unfold KnownP kV at HK
  simp only at HK HAL ⊢
  go_enter Tryz.func17, Tryz.ntmps17
  go_wp2_with (go_at_call 38; go_loud ((refine HK.out.mono ?_; rintro e w1 ⟨rc, s, F, rfl, hka, hfo, hli, -, hb1⟩; have HKA := Lib.hid hka; have HFO := Lib.hid hfo; have HLI := Lib.hid hli; have HB1 := Lib.hid (HAL.out.trans (hb1.mono HAL.out.size)); clear hka hfo hli hb1)))
  have HN2 := Lib.hid ((HKA.out.keep (B' := w1.heap.size) (fun k hk => heap_alloc_lt w1 (.cells #[.slice (some ⟨F.g, 0, none⟩) r r, .slice (some ⟨F.nb, 0, none⟩) r r, .slice (some ⟨F.ab, 0, none⟩) r r, .slice F.WA r F.wc] 98) hk) (Nat.le_refl _)).n)
  have HB2 := Lib.hid (HB1.out.alloc HB1.out.size (.cells #[.slice (some ⟨F.g, 0, none⟩) r r, .slice (some ⟨F.nb, 0, none⟩) r r, .slice (some ⟨F.ab, 0, none⟩) r r, .slice F.WA r F.wc] 98))
  have HNE : Hid (∀ W v, IntsAt W w.heap.size v (trues (nots r (needs f.bl rc s f.bl.length)) r) → Below w.heap.size w W → NeverP f r w (.returned (.tuple #[v, .int .i64 0])) W) := Lib.hid fun W v h1 h2 => ⟨rc, s, v, rfl, h1, HFO.out, HLI.out, h2⟩
  have hnl : (nots r (needs f.bl rc s f.bl.length)).length = r := nots_length _ _
  clear HK HAL HKA HFO HLI HB1
  generalize nots r (needs f.bl rc s f.bl.length) = nv at *
  generalize w1.alloc (.cells #[.slice (some ⟨F.g, 0, none⟩) r r, .slice (some ⟨F.nb, 0, none⟩) r r, .slice (some ⟨F.ab, 0, none⟩) r r, .slice F.WA r F.wc] 98) = W2 at *
  generalize F.nb = nb at *
  have hgl := HN2.out.lt
  have HNL := Lib.hid hnl
  clear hnl
  go_loopg [20, 6] r (fun N i t wr => ∃ k, k ≤ r ∧ N = r - k ∧ i = .int .i64 k ∧ wr.ownsRow W2.heap.size 3 1 t (trues nv k).length (ints (trues nv k)) ∧ Below W2.heap.size W2 wr)
  case atStart => exact ⟨0, by omega, rfl, rfl, World.ownsRow_nil _ _ _ _, Below.refl _ _⟩
  case round =>
    obtain ⟨k, hk, rfl, rfl, hown, hbl⟩ := hrel
    obtain ⟨A9, c9, rfl, -, -⟩ := own_form hown
    have HO := Lib.hid hown
    have HB := Lib.hid hbl
    clear hown hbl
    by_cases hlt : k < r
    · have hlI : (k : Int) < (r : Int) := by omega
      have hb : nv[k]? = some (nv[k]'(by rw [HNL.out]; exact hlt)) := List.getElem?_eq_getElem _
      have a0 := (BoolsAt.below HN2.out HB.out hgl).cell hb
      have HT := Lib.hid (trues_succ nv k _ hb)
      have htl := trues_len nv k
      generalize nv[k]'(by rw [HNL.out]; exact hlt) = bk at *
      clear hb
      cases bk with
      | false =>
        go_wp2_with fail
        go_roundg (r - (k + 1))
        case measure => omega
        case rel => exact ⟨k + 1, by omega, rfl, by go_num, by rw [HT.out]; exact HO.out, HB.out⟩
      | true =>
        have hsz := HB.out.size
        go_wp2_with (at_builtin; go_loud (refine wpList_app_one (w := wr.alloc (.cells #[.int .i64 k] 3)) rfl (.tmp 26) (.tmp 28) rfl (r := (k : Int)) rfl (HO.out.alloc _) rfl (heap_alloc_new wr _) (by omega) (by simp; omega) ?_); intro v6 w6 ho6 hg6; obtain ⟨A6, c6, rfl, -, -⟩ := own_form ho6; have HO6 := Lib.hid ho6; have HG6 := Lib.hid hg6; clear ho6 hg6)
        go_roundg (r - (k + 1))
        case measure => omega
        case rel =>
          refine ⟨k + 1, by omega, rfl, by go_num, ?_, ?_⟩
          · have := HT.out
            simp only [if_true] at this
            rw [this]
            have h6 := HO6.out
            simpa using h6
          · exact (HB.out.alloc hsz _).grown HG6.out (by simp; omega) (fun j hj => (HO.out.lt j hj).1)
    · obtain rfl : k = r := by omega
      have HE := Lib.hid (HNE.out wr _ ⟨A9, c9, rfl, own_base HO.out HB2.out.size⟩ (HB2.out.trans (HB.out.mono HB2.out.size)))
      go_wp2_with fail
      go_ret2
      exact HE.out
end Go.Proofs.YthgbmhpfblgjcaaGreatDoor.fl
namespace Go.Proofs.YthgbmhpfblgjcaaGreatDoor.fl
open Go.RowKit Go.Shelf
open M T ty
set_option linter.unusedVariables false
/-- the places, one register behind the other -/
def asg (cl : Nat → List Int) (L : Prs) (nv ac : List Bool) (r : Nat) : Nat → List Int × Nat
  | 0 => (List.replicate r (-1), 0)
  | i + 1 => if nv[i]?.getD false = true then asg cl L nv ac r i else ((asg cl L nv ac r i).1.set i (placeOf (takenL cl L r (asg cl L nv ac r i).1 (asg cl L nv ac r i).2 i) (ac[i]?.getD false) : Nat), wordsOf (asg cl L nv ac r i).2 (placeOf (takenL cl L r (asg cl L nv ac r i).1 (asg cl L nv ac r i).2 i) (ac[i]?.getD false)))
/-- what is taken has room behind it -/
def InW (r : Nat) (q : List Int × Nat) : Prop := q.1.length = r ∧ ∀ s : Nat, s < r → -1 ≤ atP q.1 s ∧ atP q.1 s < 16 + (q.2 : Int)
theorem atP_set {ps : List Int} {i s : Nat} {p : Int} (hi : i < ps.length) : atP (ps.set i p) s = if s = i then p else atP ps s := by
  unfold atP
  rw [Int.toNat_natCast, List.getElem?_set]
  by_cases e : i = s
  · subst e
    rw [if_pos rfl, if_pos rfl, if_pos hi]
    rfl
  · rw [if_neg e, if_neg (Ne.symm e)]
theorem taken_last {cl : Nat → List Int} {L : Prs} {r wd : Nat} {ps : List Int} {i : Nat} (hcl : ∀ a, ∀ s ∈ cl a, 0 ≤ s ∧ s < (r : Int)) (h : ∀ s : Nat, s < r → -1 ≤ atP ps s ∧ atP ps s < 16 + (wd : Int)) : (takenL cl L r ps wd i)[16 + wd]? = some false := by
  unfold takenL
  rw [marks_get _ _ _ (by omega)]
  rw [decide_eq_false]
  intro hm
  rcases List.mem_append.1 hm with hm | hm
  · unfold tk1 at hm
    rw [List.take_length] at hm
    obtain ⟨s, hs, e⟩ := List.mem_map.1 hm
    obtain ⟨s0, s1⟩ := hcl i s hs
    obtain ⟨q, rfl⟩ := Int.eq_ofNat_of_zero_le s0
    have := (h q (by omega)).2
    omega
  · unfold tk2 at hm
    obtain ⟨s, hs, e⟩ := List.mem_map.1 hm
    have h1 := List.mem_range.1 (List.mem_filter.1 hs).1
    have := (h s h1).2
    omega
/-- what placeOf gives: it is free, and may be crossed by a call or not -/
theorem place_ok {tk : List Bool} {acr : Bool} {wd : Nat} (hl : tk.length = 17 + wd) (h : tk[16 + wd]? = some false) : tk[placeOf tk acr]? = some false ∧ (placeOf tk acr ≤ 3 → acr = false) ∧ (placeOf tk acr ≤ 10 ∨ 16 ≤ placeOf tk acr) ∧ placeOf tk acr ≤ 16 + wd := by
  unfold placeOf
  cases hf : (List.range 11).find? (okPl tk acr) with
  | some p =>
    simp only
    have h1 := List.find?_some hf
    have h2 := List.mem_range.1 (List.mem_of_find?_eq_some hf)
    unfold okPl at h1
    have hg : tk[p]? = some (tk[p]'(by omega)) := List.getElem?_eq_getElem _
    rw [hg] at h1 ⊢
    simp at h1
    refine ⟨by rw [h1.1], fun h3 => ?_, .inl (by omega), by omega⟩
    rcases h1.2 with h4 | h4
    · omega
    · exact h4
  | none =>
    simp only
    have hex : ∃ x ∈ tk.drop 16, (!x) = true := by
      have : (tk.drop 16)[wd]? = some false := by rw [List.getElem?_drop]; exact h
      exact ⟨false, List.mem_of_getElem? this, rfl⟩
    have hlt : (tk.drop 16).findIdx (! ·) < (tk.drop 16).length := List.findIdx_lt_length_of_exists hex
    have h0 : (tk.drop 16)[(tk.drop 16).findIdx (! ·)]? = some false := by
      rw [List.getElem?_eq_getElem hlt]
      have := List.findIdx_getElem (w := hlt)
      simpa using this
    rw [List.getElem?_drop] at h0
    rw [List.length_drop, hl] at hlt
    exact ⟨h0, fun h3 => by omega, .inr (by omega), by omega⟩
theorem taken_length (cl : Nat → List Int) (L : Prs) (r : Nat) (ps : List Int) (wd i : Nat) : (takenL cl L r ps wd i).length = 17 + wd := marks_length _ _
theorem asg_in {cl : Nat → List Int} {L : Prs} {nv ac : List Bool} {r : Nat} (hcl : ∀ a, ∀ s ∈ cl a, 0 ≤ s ∧ s < (r : Int)) : ∀ i, i ≤ r → InW r (asg cl L nv ac r i) ∧ (asg cl L nv ac r i).2 ≤ i
  | 0, _ => ⟨⟨by simp [asg], fun s hs => by simp [asg, atP, List.getElem?_replicate, hs]⟩, Nat.le_refl _⟩
  | i + 1, hi => by
    obtain ⟨⟨h1, h2⟩, h3⟩ := asg_in (L := L) (nv := nv) (ac := ac) hcl i (by omega)
    unfold asg
    split
    · exact ⟨⟨h1, h2⟩, by omega⟩
    · generalize asg cl L nv ac r i = q at *
      obtain ⟨-, -, p3, p4⟩ := place_ok (acr := ac[i]?.getD false) (taken_length cl L r q.1 q.2 i) (taken_last (L := L) (i := i) hcl h2)
      generalize placeOf (takenL cl L r q.1 q.2 i) (ac[i]?.getD false) = p at *
      refine ⟨⟨by simpa using h1, fun s hs => ?_⟩, ?_⟩
      · simp only
        rw [atP_set (by omega)]
        have := h2 s hs
        unfold wordsOf
        split <;> split <;> omega
      · simp only
        unfold wordsOf
        split <;> omega
/-- an allocator under way since world w3 -/
structure EnvAs (w3 W : World) (xb : Nat) (F : KLay) (r : Nat) (v : Value) (ps : List Int) (wd : Nat) : Prop where
  x : XBox W xb F r v wd
  own : W.ownsRow w3.heap.size 3 1 v ps.length (ints ps)
  b : Below w3.heap.size w3 W
  l : w3.heap.size ≤ xb
section
variable {w3 W W' : World} {xb r wd : Nat} {F : KLay} {v : Value} {ps : List Int}
theorem EnvAs.lt (h : EnvAs w3 W xb F r v ps wd) : xb < W.heap.size := (Array.getElem?_eq_some_iff.1 h.x).1
theorem EnvAs.off (h : EnvAs w3 W xb F r v ps wd) : v.ownBlock ≠ some xb := fun e => by
  rcases h.own.2 with ⟨rfl, -⟩ | ⟨g, cap, cur, rfl, -, hg, -⟩
  · simp [Value.ownBlock] at e
  · obtain rfl : g = xb := by simpa [Value.ownBlock] using e
    have := h.x.symm.trans hg
    simp at this
theorem EnvAs.after (h : EnvAs w3 W xb F r v ps wd) (hb : Below W.heap.size W W') : EnvAs w3 W' xb F r v ps wd :=
  ⟨(hb.block xb h.lt).trans h.x, own_below_size h.own hb, h.b.trans (hb.mono h.b.size), h.l⟩
theorem EnvAs.app (h : EnvAs w3 W xb F r v ps wd) {y : Int} {tmp : Obj} {v' : Value} (ho : W'.ownsRow w3.heap.size 3 1 v' (ps ++ [y]).length (ints (ps ++ [y]))) (hg : (W.alloc tmp).grownBy W' v.ownBlock) : XBox W' xb F r v wd ∧ EnvAs w3 (W'.setCell ⟨xb, 4, none⟩ v') xb F r v' (ps ++ [y]) wd := by
  have hx : XBox W' xb F r v wd := (hg.block xb (by have := h.lt; rw [World.size_alloc]; omega) (fun e => h.off e.symm)).trans ((heap_alloc_lt W tmp h.lt).trans h.x)
  have hb : Below w3.heap.size w3 W' := (h.b.alloc h.b.size tmp).grown hg (by have := h.b.size; rw [World.size_alloc]; omega) (fun g e => (h.own.lt g e).1)
  refine ⟨hx, ⟨?_, own_same ho fun g e => heap_other _ (fun e2 => ?_), hb.setCell (p := ⟨xb, 4, none⟩) h.l _, h.l⟩⟩
  · unfold XBox
    rw [heap_set (o := 4) hx]
    rfl
  · rw [e2] at e
    rcases ho.2 with ⟨rfl, -⟩ | ⟨g', cap, cur, rfl, -, hg', -⟩
    · simp [Value.ownBlock] at e
    · obtain rfl : g' = xb := by simpa [Value.ownBlock] using e
      have := hx.symm.trans hg'
      simp at this
end
noncomputable def asgK (f : Fn) (rc : List Bool) (s : Ins) (r i : Nat) : List Int × Nat := asg (clK f rc s) (wdL f rc s r (anl f rc s r f.bl.length)) (nots r (needs f.bl rc s f.bl.length)) (marks r (acL f rc s (anl f rc s r f.bl.length))) r i
def AssignP (f : Fn) (r : Nat) (w : World) (e : Ending) (w' : World) : Prop := ∃ rc s A c, e = .returned (.tuple #[.agg #[.slice A r c, .int .i64 ((asgK f rc s r r).2 : Int)], .int .i64 0]) ∧ RdP w' (fun k => w.heap.size ≤ k ∧ k < w'.heap.size) A (ints (asgK f rc s r r).1) ∧ Found (tos f.bl) (-1) 0 rc ∧ Lives (tos f.bl) f.bl rc s ∧ (∀ k, clash f.params.toNat f.bl rc s k < 2 ^ r) ∧ Below w.heap.size w w'
set_option maxRecDepth 20000 in
set_option maxHeartbeats 16000000 in
theorem assigned_21 (f : Fn) (L : FLay) (r : Nat) (w : World) (h : Stands w f L r) :
    Calls Tryz.prog 21 #[fnV f L, .slice none 0 0] w (AssignP f r w) := by
  have hr4 := h.r4
  have hrI : (r : Int) ≤ 4096 := by omega
  have HAL : Hid (Below w.heap.size w ((w.alloc (FObj f L)).alloc (.cells #[.slice none 0 0, .int .i64 0] 29))) := Lib.hid (((Below.refl _ _).alloc (Nat.le_refl _) _).alloc (by simp) _)
  have hst := h.after HAL.out
  have HKN := Lib.hid (known_38 f L r _ hst)
  have HV : Hid (FBox ((w.alloc (FObj f L)).alloc (.cells #[.slice none 0 0, .int .i64 0] 29)) w.heap.size f L) := Lib.hid ((heap_alloc_lt _ _ (by simp)).trans (heap_alloc_new w _))
  have HA9 : Hid (((w.alloc (FObj f L)).alloc (.cells #[.slice none 0 0, .int .i64 0] 29)).heap[w.heap.size + 1]? = some (.cells #[.slice none 0 0, .int .i64 0] 29 (0, 0))) := Lib.hid (by have := heap_alloc_new (w.alloc (FObj f L)) (.cells #[.slice none 0 0, .int .i64 0] 29); rw [World.size_alloc] at this; exact this)
  have HREG := Lib.hid h.reg
  clear h hst
  obtain ⟨SA, sc, BA, bc, OA, oc, AA, ac⟩ := L
  unfold fnV at HKN ⊢
  unfold FObj at HKN HAL HV HA9
  unfold KnownP kV at HKN
  simp only at HKN HAL HV HA9 ⊢
  go_enter Tryz.func21, Tryz.ntmps21
  go_upto_region 4 with (go_at_call 38; go_loud ((refine HKN.out.mono ?_; rintro e w1 ⟨rc, s, F, rfl, hka, hfo, hli, hct, hb1⟩; have hv1 : FBox w1 w.heap.size f ⟨SA, sc, BA, bc, OA, oc, AA, ac⟩ := HV.out.after hb1; have ha1 := (hb1.block (w.heap.size + 1) (by simp)).trans HA9.out; have hsz : w.heap.size + 1 < w1.heap.size := (Array.getElem?_eq_some_iff.1 ha1).1; have HKA := Lib.hid hka; have HFO := Lib.hid hfo; have HLI := Lib.hid hli; have HCT := Lib.hid hct; have HB1 := Lib.hid (HAL.out.trans (hb1.mono HAL.out.size)); have HV1 := Lib.hid hv1; have HA1 := Lib.hid ha1; clear hka hfo hli hct hb1 hv1 ha1)))
  have HKB : Hid (KBox (w1.alloc (.cells #[.slice (some ⟨F.g, 0, none⟩) r r, .slice (some ⟨F.nb, 0, none⟩) r r, .slice (some ⟨F.ab, 0, none⟩) r r, .slice F.WA r F.wc] 98)) w1.heap.size F r) := Lib.hid (heap_alloc_new w1 _)
  have HBS := Lib.hid ((Below.refl w1.heap.size w1).alloc (Nat.le_refl _) (.cells #[.slice (some ⟨F.g, 0, none⟩) r r, .slice (some ⟨F.nb, 0, none⟩) r r, .slice (some ⟨F.ab, 0, none⟩) r r, .slice F.WA r F.wc] 98))
  have HK3 := Lib.hid (HKA.out.below (B' := (w1.alloc (.cells #[.slice (some ⟨F.g, 0, none⟩) r r, .slice (some ⟨F.nb, 0, none⟩) r r, .slice (some ⟨F.ab, 0, none⟩) r r, .slice F.WA r F.wc] 98)).heap.size) HBS.out HBS.out.size)
  have HB3 := Lib.hid (HB1.out.trans (HBS.out.mono HB1.out.size))
  have HV3 := Lib.hid (HV1.out.after HBS.out)
  have HA3 := Lib.hid ((HBS.out.block _ hsz).trans HA1.out)
  have hsz3 : w1.heap.size < (w1.alloc (.cells #[.slice (some ⟨F.g, 0, none⟩) r r, .slice (some ⟨F.nb, 0, none⟩) r r, .slice (some ⟨F.ab, 0, none⟩) r r, .slice F.WA r F.wc] 98)).heap.size := by rw [World.size_alloc]; omega
  clear HBS HKA HB1 HV1 HA1 HKN HAL HV HA9
  generalize w1.alloc (.cells #[.slice (some ⟨F.g, 0, none⟩) r r, .slice (some ⟨F.nb, 0, none⟩) r r, .slice (some ⟨F.ab, 0, none⟩) r r, .slice F.WA r F.wc] 98) = w3 at *
  generalize w1.heap.size = kb at *
  obtain ⟨k0, k1, k2, k3⟩ := HKB.out.cells
  obtain ⟨c0, c1, c2, c3, c4⟩ := HV3.out.cells
  rw [HREG.out] at c2
  have hfw : w.heap.size < w3.heap.size := by omega
  have HX0 : Hid (EnvAs w3 (w3.alloc (.cells #[.slice (some ⟨F.g, 0, none⟩) r r, .slice (some ⟨F.nb, 0, none⟩) r r, .slice (some ⟨F.ab, 0, none⟩) r r, .slice F.WA r F.wc, .slice none 0 0, .int .i64 0] 106)) w3.heap.size F r (.slice none 0 0) (List.replicate 0 (-1)) 0) := Lib.hid ⟨heap_alloc_new w3 _, World.ownsRow_nil _ _ _ _, (Below.refl _ _).alloc (Nat.le_refl _) _, Nat.le_refl _⟩
  go_wp2_with fail
  clear k0 k1 k2 k3 c0 c1 c2 c3 c4
  generalize w3.alloc (.cells #[.slice (some ⟨F.g, 0, none⟩) r r, .slice (some ⟨F.nb, 0, none⟩) r r, .slice (some ⟨F.ab, 0, none⟩) r r, .slice F.WA r F.wc, .slice none 0 0, .int .i64 0] 106) = W4 at *
  generalize hxbe : w3.heap.size = xb at *
  go_loopg [24] r (fun N t wr => ∃ v ps, ps.length ≤ r ∧ N = r - ps.length ∧ t = .int .i64 ps.length ∧ Hid (ps = List.replicate ps.length (-1)) ∧ EnvAs w3 wr xb F r v ps 0)
  case atStart => exact ⟨_, [], by simp, by simp, rfl, Lib.hid rfl, HX0.out⟩
  case round =>
    obtain ⟨v, ps, hi, rfl, rfl, HR, he⟩ := hrel
    clear HX0
    by_cases hlt : ps.length < r
    · have hltI : (ps.length : Int) < (r : Int) := by omega
      obtain ⟨A9, c9, rfl, -, -⟩ := own_form he.own
      obtain ⟨x0, x1, x2, x3, x4, x5, xf⟩ := he.x.cells
      have HE := Lib.hid he
      have hxl := he.lt
      have hml : (ps.length + 1) * 8 ≤ 140737488355328 := by omega
      have HR2 : Hid (ps ++ [-1] = List.replicate (ps ++ [-1]).length (-1)) := Lib.hid (by rw [List.length_append, List.length_singleton, List.replicate_succ', ← HR.out])
      have hl9 : (ps ++ [-1]).length = ps.length + 1 := by simp
      have HL9 := Lib.hid hl9
      clear he hl9
      go_wp2_with (at_builtin; go_loud (refine wpList_app_one (w := wr.alloc (.cells #[.int .i64 (-1)] 3)) rfl (.tmp 30) (.tmp 31) rfl (r := (-1 : Int)) rfl (HE.out.own.alloc _) rfl (heap_alloc_new wr _) hml (by have := HE.out.b.size; simp; omega) ?_); intro v6 w6 ho6 hg6; obtain ⟨hx6, he6⟩ := HE.out.app (y := -1) ho6 hg6; obtain ⟨A6, c6, rfl, -, -⟩ := own_form ho6; have y4 := Go.Joins.cell_of_block hx6 4; have yf := Go.Joins.unfrozen_of_block hx6 4; have HE6 := Lib.hid he6; clear ho6 hg6 hx6 he6)
      go_roundg (r - (ps.length + 1))
      case measure => omega
      case rel => exact ⟨_, ps ++ [-1], by rw [HL9.out]; omega, by rw [HL9.out], by rw [HL9.out]; go_num, HR2, by have h9 := HE6.out; rw [HL9.out] at h9; exact h9⟩
    · have hlr : ps.length = r := by omega
      have hpr := HR.out
      rw [hlr] at hpr
      obtain ⟨A9, c9, rfl, -, -⟩ := own_form he.own
      have hge : ¬ (ps.length : Int) < (r : Int) := by omega
      have HLR := Lib.hid hlr
      have HE4 : Hid (EnvAs w3 wr xb F r (.slice A9 r c9) (List.replicate r (-1)) 0) := Lib.hid (by have h9 := he; rw [hlr, hpr] at h9; exact h9)
      obtain ⟨c0, c1, c2, c3, c4⟩ := (FBox.cells ((he.b.block w.heap.size (by omega)).trans HV3.out))
      rw [HREG.out] at c2
      clear he hlr hpr
      go_wp2_with fail
      clear c0 c1 c2 c3 c4
      have HI0 : Hid (EnvAs w3 wr xb F r (.slice A9 r c9) (asgK f rc s r 0).1 (asgK f rc s r 0).2) := Lib.hid HE4.out
      have hnl : (nots r (needs f.bl rc s f.bl.length)).length = r := nots_length _ _
      have hal : (marks r (acL f rc s (anl f rc s r f.bl.length))).length = r := marks_length _ _
      have HCB : Hid (∀ a, ∀ q ∈ clK f rc s a, 0 ≤ q ∧ q < (r : Int)) := Lib.hid fun a q hq => list_bd (HCT.out a) hq
      have HCN : Hid (∀ a, (clK f rc s a).length ≤ 4096) := Lib.hid fun a => list_len _
      have HIN : Hid (∀ j, j ≤ r → InW r (asgK f rc s r j) ∧ (asgK f rc s r j).2 ≤ j) := Lib.hid fun j hj => asg_in HCB.out j hj
      have HSU : Hid (∀ j, asgK f rc s r (j + 1) = if (nots r (needs f.bl rc s f.bl.length))[j]?.getD false = true then asgK f rc s r j else ((asgK f rc s r j).1.set j (placeOf (takenL (clK f rc s) (wdL f rc s r (anl f rc s r f.bl.length)) r (asgK f rc s r j).1 (asgK f rc s r j).2 j) ((marks r (acL f rc s (anl f rc s r f.bl.length)))[j]?.getD false) : Nat), wordsOf (asgK f rc s r j).2 (placeOf (takenL (clK f rc s) (wdL f rc s r (anl f rc s r f.bl.length)) r (asgK f rc s r j).1 (asgK f rc s r j).2 j) ((marks r (acL f rc s (anl f rc s r f.bl.length)))[j]?.getD false)))) := Lib.hid fun j => rfl
      have HFIN : Hid (∀ W A c, EnvAs w3 W xb F r (.slice A r c) (asgK f rc s r r).1 (asgK f rc s r r).2 → ∀ W', Below w.heap.size w W' → W.heap.size = W'.heap.size → (∀ k, k ≠ w.heap.size + 1 → W'.heap[k]? = W.heap[k]?) → AssignP f r w (.returned (.tuple #[.agg #[.slice A r c, .int .i64 ((asgK f rc s r r).2 : Int)], .int .i64 0])) W') := Lib.hid fun W A c he W' hb hs hk => by
        have ho := he.own
        rw [(HIN.out r (Nat.le_refl _)).1.1] at ho
        refine ⟨rc, s, A, c, rfl, ?_, HFO.out, HLI.out, HCT.out, hb⟩
        rw [← hs]
        exact (RdP.of_own ho).keep fun k hk9 => ⟨⟨by omega, hk9.2⟩, hk k (by omega)⟩
      clear HE4 HLI HFO HCT
      generalize hnve : nots r (needs f.bl rc s f.bl.length) = nv at *
      generalize hace : marks r (acL f rc s (anl f rc s r f.bl.length)) = acv at *
      generalize hwde : wdL f rc s r (anl f rc s r f.bl.length) = wdv at *
      generalize hq : asgK f rc s r = q at *
      clear hnve hace hwde hq
      generalize clK f rc s = clv at *
      have HXBE := Lib.hid hxbe
      have HNL := Lib.hid hnl
      have HALL := Lib.hid hal
      clear hnl hal
      go_loopg [38] r (fun N t wr => ∃ j, j ≤ r ∧ N = r - j ∧ t = .int .i64 j ∧ EnvAs w3 wr xb F r (.slice A9 r c9) (q j).1 (q j).2)
      case atStart => exact ⟨0, by omega, rfl, rfl, HI0.out⟩
      case round =>
        obtain ⟨j, hj, rfl, rfl, he⟩ := hrel
        clear HI0
        have hbx : Below xb w3 wr := by have h9 := he.b; rw [HXBE.out] at h9; exact h9
        have hK := HK3.out.below (B' := xb) hbx (Nat.le_refl _)
        have hkb : KBox wr kb F r := (hbx.block kb (by omega)).trans HKB.out
        obtain ⟨k0, k1, k2, k3⟩ := hkb.cells
        by_cases hlj : j < r
        · have hljI : (j : Int) < (r : Int) := by omega
          have hn9 : nv[j]? = some (nv[j]'(by rw [HNL.out]; exact hlj)) := List.getElem?_eq_getElem _
          have n0 := hK.n.cell hn9
          have hsu := HSU.out j
          rw [hn9, Option.getD_some] at hsu
          generalize nv[j]'(by rw [HNL.out]; exact hlj) = bn at *
          obtain ⟨⟨hq1, hq2⟩, hq3⟩ := HIN.out j (by omega)
          have hown := he.own
          rw [hq1, HXBE.out] at hown
          obtain ⟨ob, rfl, hob1, hob2, -⟩ := own_at hown (by omega)
          cases bn with
          | true =>
            rw [if_pos rfl] at hsu
            rw [← hsu] at he
            have HE := Lib.hid he
            clear he hK hkb hn9 hsu hq1 hq2 hq3 hown hbx
            go_wp2_with fail
            go_roundg (r - (j + 1))
            case measure => omega
            case rel => exact ⟨j + 1, by omega, rfl, by go_num, HE.out⟩
          | false =>
            rw [if_neg (by decide)] at hsu
            have hct := contains_50 none 0 [] (j : Int) 0 wr (by simp) Rd.nil
            rw [decide_eq_false (by simp), List.length_nil] at hct
            have HCT := Lib.hid hct
            have hpt := put_49 hK he.x (Nat.le_refl _) hown hq1 hq2 hr4 (by omega) HCB.out HCN.out HALL.out hlj
            unfold PutP at hpt
            generalize placeOf (takenL clv wdv r (q j).1 (q j).2 j) (acv[j]?.getD false) = p at *
            have HPT := Lib.hid hpt
            have HNX : Hid (∀ w', XBox w' xb F r (.slice (some ⟨ob, 0, none⟩) r c9) (wordsOf (q j).2 p) → w'.ownsRow xb 3 1 (.slice (some ⟨ob, 0, none⟩) r c9) r (ints ((q j).1.set j (p : Int))) → Below xb wr w' → EnvAs w3 w' xb F r (.slice (some ⟨ob, 0, none⟩) r c9) (q (j + 1)).1 (q (j + 1)).2) := Lib.hid fun w' h1 h2 h3 => by
              rw [hsu]
              refine ⟨h1, ?_, ?_, by rw [HXBE.out]; exact Nat.le_refl _⟩
              · rw [HXBE.out, List.length_set, hq1]
                exact h2
              · rw [HXBE.out]
                exact hbx.trans h3
            clear he hK hkb hn9 hsu hq1 hq2 hq3 hown hbx hct hpt
            go_wp2_with (first
              | (go_at_call 49; go_loud ((refine HPT.out.mono ?_; rintro e w7 ⟨rfl, h71, h72, h73, -⟩; have HE := Lib.hid (HNX.out w7 h71 h72 h73); clear h71 h72 h73)))
              | (go_at_call 50; go_loud ((refine HCT.out.mono ?_; rintro e w7 ⟨rfl, rfl⟩))))
            go_roundg (r - (j + 1))
            case measure => omega
            case rel => exact ⟨j + 1, by omega, rfl, by go_num, HE.out⟩
        · obtain rfl : j = r := by omega
          obtain ⟨x0, x1, x2, x3, x4, x5, xf⟩ := he.x.cells
          have hr9 := (hbx.block (w.heap.size + 1) (by omega)).trans HA3.out
          have r0 := Go.Joins.cell_of_block hr9 0
          have r1 := Go.Joins.cell_of_block hr9 1
          have g0 := Go.Joins.unfrozen_of_block hr9 0
          have g1 := Go.Joins.unfrozen_of_block hr9 1
          have hbw := HB3.out.trans (hbx.mono (by omega))
          have HE := Lib.hid (HFIN.out wr A9 c9 he)
          have HBW := Lib.hid hbw
          clear he hK hkb hbx hr9 hbw k0 k1 k2 k3
          go_upto_region 15 with fail
          go_region
          all_goals
            go_wp2_with fail
            try simp only [Exit.inBlock, Exit.then]
            refine bodyPost_ret (v := .tuple #[.agg #[.slice A9 j c9, .int .i64 ((q j).2 : Int)], .int .i64 0]) (by rw [results_cell_tmp rfl]; go_simp) rfl ?_
            exact HE.out _ (((HBW.out.setCell (p := ⟨w.heap.size + 1, 0, none⟩) (Nat.le_succ _) (.slice A9 j c9)).setCell (p := ⟨w.heap.size + 1, 1, none⟩) (Nat.le_succ _) (.int .i64 ((q j).2 : Int))).drew) (by simp) (fun k hk => (heap_other _ hk).trans (heap_other _ hk))
set_option maxRecDepth 20000 in
set_option maxHeartbeats 4000000 in
theorem assigned_no (f : Fn) (L : FLay) (w : World) (h : Lies w f L) (hno : fnB 4611686018427387904 f = false) :
    Calls Tryz.prog 21 #[fnV f L, .slice none 0 0] w fun e w' => e = .returned (.tuple #[.agg #[.slice none 0 0, .int .i64 0], .int .i64 180]) ∧ Below w.heap.size w w' := by
  have HAL : Hid (Below w.heap.size w ((w.alloc (FObj f L)).alloc (.cells #[.slice none 0 0, .int .i64 0] 29))) := Lib.hid (((Below.refl _ _).alloc (Nat.le_refl _) _).alloc (by simp) _)
  have HK := Lib.hid (known_no f L _ (h.after HAL.out) hno)
  have HA9 : Hid (((w.alloc (FObj f L)).alloc (.cells #[.slice none 0 0, .int .i64 0] 29)).heap[w.heap.size + 1]? = some (.cells #[.slice none 0 0, .int .i64 0] 29 (0, 0))) := Lib.hid (by have := heap_alloc_new (w.alloc (FObj f L)) (.cells #[.slice none 0 0, .int .i64 0] 29); rw [World.size_alloc] at this; exact this)
  clear h hno
  obtain ⟨SA, sc, BA, bc, OA, oc, AA, ac⟩ := L
  unfold fnV at HK ⊢
  unfold FObj at HK HAL HA9
  simp only at HK HAL HA9 ⊢
  go_enter Tryz.func21, Tryz.ntmps21
  go_wp2_with (go_at_call 38; go_loud ((refine HK.out.mono ?_; rintro e w1 ⟨rfl, hb1⟩; have ha1 := (hb1.block (w.heap.size + 1) (by simp)).trans HA9.out; have r0 := Go.Joins.cell_of_block ha1 0; have r1 := Go.Joins.cell_of_block ha1 1; have g0 := Go.Joins.unfrozen_of_block ha1 0; have g1 := Go.Joins.unfrozen_of_block ha1 1; have hsz : w.heap.size + 1 < w1.heap.size := (Array.getElem?_eq_some_iff.1 ha1).1; have HB1 := Lib.hid (HAL.out.trans (hb1.mono HAL.out.size)); clear hb1 ha1)))
  try simp only [Exit.inBlock, Exit.then]
  refine bodyPost_ret (v := .tuple #[.agg #[.slice none 0 0, .int .i64 0], .int .i64 180]) (by rw [results_cell_tmp rfl]; go_simp) rfl ?_
  have h9 := (HB1.out.setCell (p := ⟨w.heap.size + 1, 0, none⟩) (Nat.le_succ _) (.slice none 0 0)).setCell (p := ⟨w.heap.size + 1, 1, none⟩) (Nat.le_succ _) (.int .i64 0)
  exact ⟨rfl, h9.alloc h9.size _⟩
set_option maxRecDepth 20000 in
set_option maxHeartbeats 4000000 in
theorem Assign_no (f : Fn) (L : FLay) (w : World) (h : Lies w f L) (hno : fnB 4611686018427387904 f = false) :
    Calls Tryz.prog 7 #[fnV f L] w fun e w' => e = .returned (.tuple #[.agg #[.slice none 0 0, .int .i64 0], .int .i64 180]) ∧ Below w.heap.size w w' := by
  have HAL : Hid (Below w.heap.size w ((w.alloc (FObj f L)).alloc (.cells #[.slice none 0 0, .int .i64 0] 29))) := Lib.hid (((Below.refl _ _).alloc (Nat.le_refl _) _).alloc (by simp) _)
  have HK := Lib.hid (assigned_no f L _ (h.after HAL.out) hno)
  have HA9 : Hid (((w.alloc (FObj f L)).alloc (.cells #[.slice none 0 0, .int .i64 0] 29)).heap[w.heap.size + 1]? = some (.cells #[.slice none 0 0, .int .i64 0] 29 (0, 0))) := Lib.hid (by have := heap_alloc_new (w.alloc (FObj f L)) (.cells #[.slice none 0 0, .int .i64 0] 29); rw [World.size_alloc] at this; exact this)
  clear h hno
  obtain ⟨SA, sc, BA, bc, OA, oc, AA, ac⟩ := L
  unfold fnV at HK ⊢
  unfold FObj at HK HAL HA9
  simp only at HK HAL HA9 ⊢
  go_enter Tryz.func7, Tryz.ntmps7
  go_wp2_with (go_at_call 21; go_loud ((refine HK.out.mono ?_; rintro e w1 ⟨rfl, hb1⟩; have ha1 := (hb1.block (w.heap.size + 1) (by simp)).trans HA9.out; have r0 := Go.Joins.cell_of_block ha1 0; have r1 := Go.Joins.cell_of_block ha1 1; have g0 := Go.Joins.unfrozen_of_block ha1 0; have g1 := Go.Joins.unfrozen_of_block ha1 1; have hsz : w.heap.size + 1 < w1.heap.size := (Array.getElem?_eq_some_iff.1 ha1).1; have HB1 := Lib.hid (HAL.out.trans (hb1.mono HAL.out.size)); clear hb1 ha1)))
  try simp only [Exit.inBlock, Exit.then]
  refine bodyPost_ret (v := .tuple #[.agg #[.slice none 0 0, .int .i64 0], .int .i64 180]) (by rw [results_cell_tmp rfl]; go_simp) rfl ?_
  exact ⟨rfl, (HB1.out.setCell (p := ⟨w.heap.size + 1, 0, none⟩) (Nat.le_succ _) (.slice none 0 0)).setCell (p := ⟨w.heap.size + 1, 1, none⟩) (Nat.le_succ _) (.int .i64 0)⟩
set_option maxRecDepth 20000 in
set_option maxHeartbeats 4000000 in
theorem Assign_7 (f : Fn) (L : FLay) (r : Nat) (w : World) (h : Stands w f L r) :
    Calls Tryz.prog 7 #[fnV f L] w (AssignP f r w) := by
  have HAL : Hid (Below w.heap.size w ((w.alloc (FObj f L)).alloc (.cells #[.slice none 0 0, .int .i64 0] 29))) := Lib.hid (((Below.refl _ _).alloc (Nat.le_refl _) _).alloc (by simp) _)
  have HK := Lib.hid (assigned_21 f L r _ (h.after HAL.out))
  have HA9 : Hid (((w.alloc (FObj f L)).alloc (.cells #[.slice none 0 0, .int .i64 0] 29)).heap[w.heap.size + 1]? = some (.cells #[.slice none 0 0, .int .i64 0] 29 (0, 0))) := Lib.hid (by have := heap_alloc_new (w.alloc (FObj f L)) (.cells #[.slice none 0 0, .int .i64 0] 29); rw [World.size_alloc] at this; exact this)
  clear h
  obtain ⟨SA, sc, BA, bc, OA, oc, AA, ac⟩ := L
  unfold fnV at HK ⊢
  unfold FObj at HK HAL HA9
  unfold AssignP at HK
  simp only at HK HAL HA9 ⊢
  go_enter Tryz.func7, Tryz.ntmps7
  go_wp2_with (go_at_call 21; go_loud ((refine HK.out.mono ?_; rintro e w1 ⟨rc, s, A, c, rfl, hrd, hfo, hli, hct, hb1⟩; have ha1 := (hb1.block (w.heap.size + 1) (by simp)).trans HA9.out; have r0 := Go.Joins.cell_of_block ha1 0; have r1 := Go.Joins.cell_of_block ha1 1; have g0 := Go.Joins.unfrozen_of_block ha1 0; have g1 := Go.Joins.unfrozen_of_block ha1 1; have HR1 := Lib.hid ha1; have hsz : w.heap.size + 1 < w1.heap.size := (Array.getElem?_eq_some_iff.1 ha1).1; have HB1 := Lib.hid (HAL.out.trans (hb1.mono HAL.out.size)); have HRD := Lib.hid hrd; have HFO := Lib.hid hfo; have HLI := Lib.hid hli; have HCT := Lib.hid hct; clear hb1 ha1 hrd hfo hli hct)))
  try simp only [Exit.inBlock, Exit.then]
  refine bodyPost_ret (v := .tuple #[.agg #[.slice A r c, .int .i64 ((asgK f rc s r r).2 : Int)], .int .i64 0]) (by rw [results_cell_tmp rfl]; go_simp) rfl ?_
  refine ⟨rc, s, A, c, rfl, ?_, HFO.out, HLI.out, HCT.out, (HB1.out.setCell (p := ⟨w.heap.size + 1, 0, none⟩) (Nat.le_succ _) (.slice A r c)).setCell (p := ⟨w.heap.size + 1, 1, none⟩) (Nat.le_succ _) (.int .i64 ((asgK f rc s r r).2 : Int))⟩
  refine HRD.out.keep fun k hk => ?_
  have h1 : w.heap.size + 2 ≤ k := by have := hk.1; simp at this; omega
  refine ⟨⟨by omega, by rw [World.size_setCell, World.size_setCell]; exact hk.2⟩, (heap_other _ (by omega)).trans (heap_other _ (by omega))⟩
end Go.Proofs.YthgbmhpfblgjcaaGreatDoor.fl
