/-
  Of package alloc: needs. Condition: the function and the facts stand in memory.
-/
import Derived.Test.YthgbmhpfblgjcaaGreatDoorTwO
set_option linter.unusedVariables false
set_option linter.unusedSimpArgs false
namespace Go.Proofs.YthgbmhpfblgjcaaGreatDoor.fl
open Go.RowKit Go.Shelf
open M T ty
set_option linter.unusedVariables false
theorem rdp_int {w : World} {P : Nat → Prop} {A : Option Addr} {l : List Int} (h : RdP w P A (ints l)) {k : Nat} (hk : k < l.length) :
    ∃ ad p x, A = some ad ∧ l[k]? = some x ∧ ad.add k = p ∧ P p.block ∧ w.cell? p = some (.int .i64 x) := by
  obtain ⟨ad, e, hb, hc⟩ := h (by intro h0; have h1 := ints_length l; rw [h0, List.length_nil] at h1; omega)
  refine ⟨ad, ad.add k, l[k], e, List.getElem?_eq_getElem hk, rfl, ?_, ?_⟩
  · rw [M.block_add]; exact hb
  · exact hc k _ (by simp [ints, List.getElem?_eq_getElem hk])
set_option maxRecDepth 20000 in
set_option maxHeartbeats 4000000 in
theorem need_98 {W : World} {tb kb nb n c : Nat} {A : Option Addr} {l m : List Int} (ht : W.heap[tb]? = some (.cells #[.pointer (some ⟨kb, 0, none⟩)] 121 (0, 0))) (hk : W.cell? ⟨kb, 1, none⟩ = some (.slice (some ⟨nb, 0, none⟩) n n)) (hkn : kb ≠ nb) (hkl : kb < W.heap.size)
    (hn : BoolsAt W nb (nots n l)) (hr : RdP W (fun g => g < W.heap.size ∧ g ≠ nb) A (ints m)) (hm : ∀ x ∈ m, x < (n : Int)) (hml : m.length ≤ 281474976710656) :
    Calls Tryz.prog 98 #[.slice A m.length c, .pointer (some ⟨tb, 0, none⟩)] W fun e w' => e = .returned (.tuple #[]) ∧ BoolsAt w' nb (nots n (l ++ m)) ∧ W.grownBy w' (some nb) := by
  have htn : tb ≠ nb := fun e => by rw [e] at ht; have := ht.symm.trans hn; simp at this
  have HT := Lib.hid ht
  have HN := Lib.hid hn
  have HR := Lib.hid hr
  have HM := Lib.hid hm
  have HKK := Lib.hid hk
  clear ht hn hr hm hk
  go_enter Tryz.func98, Tryz.ntmps98
  go_wp2_with fail
  go_loopg [7] m.length (fun N t wr => ∃ j, j ≤ m.length ∧ N = m.length - j ∧ t = .int .i64 j ∧ BoolsAt wr nb (nots n (l ++ m.take j)) ∧ W.grownBy wr (some nb))
  case atStart => exact ⟨0, by omega, rfl, rfl, by simpa using HN.out, ⟨rfl, rfl, rfl, Nat.le_refl _, fun _ _ _ => rfl⟩⟩
  case round =>
    obtain ⟨j, hj, rfl, rfl, hb, hg⟩ := hrel
    by_cases hlj : j < m.length
    · have hold : ∀ g, g < W.heap.size → g ≠ nb → wr.heap[g]? = W.heap[g]? := fun g h1 h2 => hg.block g h1 (fun e => h2 (Option.some.inj e))
      have hr2 : RdP wr (fun g => g < W.heap.size ∧ g ≠ nb) A (ints m) := HR.out.keep fun g hgn => ⟨hgn, hold g hgn.1 hgn.2⟩
      obtain ⟨ad, p, x, rfl, hx, hp, -, c0⟩ := rdp_int hr2 hlj
      have htl := (Array.getElem?_eq_some_iff.1 HT.out).1
      have t0 := Go.Joins.cell_of_block ((hold tb htl htn).trans HT.out) 0
      have k1 := (cell_of_heap (p := ⟨kb, 1, none⟩) (hold kb hkl hkn)).trans HKK.out
      have hxn := HM.out x (List.mem_of_getElem? hx)
      have hlI : (j : Int) < (m.length : Int) := by omega
      have HTK : Hid (l ++ m.take (j + 1) = (l ++ m.take j) ++ [x]) := Lib.hid (by rw [List.take_add_one, hx, List.append_assoc]; rfl)
      have HB := Lib.hid hb
      have HG := Lib.hid hg
      clear hb hg hold hr2 hx
      by_cases h0 : 0 ≤ x
      · obtain ⟨q, rfl⟩ := Int.eq_ofNat_of_zero_le h0
        have hq : q < n := by omega
        have hbs := HB.out.set q false
        rw [← nots_snoc _ _ _ hq, ← HTK.out] at hbs
        have HBS := Lib.hid hbs
        have hl0 : q < (nots n (l ++ m.take j)).length := by rw [nots_length]; exact hq
        have d0 := HB.out.cell (List.getElem?_eq_getElem hl0)
        have f0 := HB.out.unfrozen q
        clear hbs h0
        go_wp2_with fail
        go_roundg (m.length - (j + 1))
        case measure => omega
        case rel => exact ⟨j + 1, by omega, rfl, by go_num, HBS.out, HG.out.trans (grown_setCell _ ⟨nb, q, none⟩ _)⟩
      · have h0' : x < 0 := by omega
        clear h0
        go_wp2_with fail
        go_roundg (m.length - (j + 1))
        case measure => omega
        case rel => exact ⟨j + 1, by omega, rfl, by go_num, by rw [HTK.out, nots_neg _ _ _ h0']; exact HB.out, HG.out⟩
    · obtain rfl : j = m.length := by omega
      rw [List.take_length] at hb
      have HF := Lib.hid (And.intro hb hg)
      clear hb hg
      go_wp2_with fail
      go_end0
      exact ⟨rfl, HF.out.1, HF.out.2⟩
end Go.Proofs.YthgbmhpfblgjcaaGreatDoor.fl
namespace Go.Proofs.YthgbmhpfblgjcaaGreatDoor.fl
open Go.RowKit Go.Shelf
open M T ty
set_option linter.unusedVariables false
/-- the row of those that need no place, as it is under way since world w2 -/
structure EnvNd (w2 W : World) (nb r : Nat) (l : List Int) : Prop where
  b : BoolsAt W nb (nots r l)
  g : w2.grownBy W (some nb)
section
variable {w2 W W' : World} {nb r : Nat} {l l' : List Int}
theorem EnvNd.after (h : EnvNd w2 W nb r l) (hb : Below W.heap.size W W') : EnvNd w2 W' nb r l := ⟨h.b.below hb h.b.lt, h.g.trans (grown_of_below hb _)⟩
theorem EnvNd.alloc (h : EnvNd w2 W nb r l) (o : Obj) : EnvNd w2 (W.alloc o) nb r l := h.after ((Below.refl _ _).alloc (Nat.le_refl _) _)
theorem EnvNd.call (h : EnvNd w2 W nb r l) (hb : BoolsAt W' nb (nots r l')) (hg : W.grownBy W' (some nb)) : EnvNd w2 W' nb r l' := ⟨hb, h.g.trans hg⟩
theorem EnvNd.trans {w1 : World} (h : EnvNd w1 w2 nb r l) (k : EnvNd w2 W nb r l') : EnvNd w1 W nb r l' := ⟨k.b, h.g.trans k.g⟩
theorem EnvNd.self (h : EnvNd w2 W nb r l) : EnvNd W W nb r l := ⟨h.b, ⟨rfl, rfl, rfl, Nat.le_refl _, fun _ _ _ => rfl⟩⟩
theorem EnvNd.old (h : EnvNd w2 W nb r l) {g : Nat} (hg : g < w2.heap.size) (hn : g ≠ nb) : W.heap[g]? = w2.heap[g]? := h.g.block g hg (fun e => hn (Option.some.inj e))
theorem EnvNd.below {w0 : World} (h : EnvNd w2 W nb r l) (hb : Below w0.heap.size w0 w2) (hn : w0.heap.size ≤ nb) : Below w0.heap.size w0 W := hb.grown h.g hb.size (fun g e => by cases e; exact hn)
end
/-- an own row is no row of truths -/
theorem rdp_own {W : World} {base n c nb : Nat} {A : Option Addr} {l : List Int} {bs : List Bool} (h : W.ownsRow base 3 1 (.slice A n c) n (ints l)) (hb : BoolsAt W nb bs) : RdP W (fun g => g < W.heap.size ∧ g ≠ nb) A (ints l) :=
  RdP.keep (RdT.of_own h) fun g ⟨cs, hg⟩ => ⟨⟨(Array.getElem?_eq_some_iff.1 hg).1, fun e => by rw [e] at hg; have := hg.symm.trans hb; simp at this⟩, rfl⟩
set_option maxRecDepth 20000 in
set_option maxHeartbeats 8000000 in
theorem needs_65 (f : Fn) (L : FLay) (r : Nat) (w0 W : World) (h0 : Stands w0 f L r) (hw : Below w0.heap.size w0 W) {kb nb : Nat} (hk : W.cell? ⟨kb, 1, none⟩ = some (.slice (some ⟨nb, 0, none⟩) r r)) (hkn : kb ≠ nb) (hkl : kb < W.heap.size) (hn : BoolsAt W nb (nots r [])) (hn0 : w0.heap.size ≤ nb) :
    Calls Tryz.prog 65 #[.pointer (some ⟨kb, 0, none⟩), fnV f L] W fun e w' => ∃ rc s, e = .returned (.tuple #[]) ∧ Found (tos f.bl) (-1) 0 rc ∧ Lives (tos f.bl) f.bl rc s ∧ BoolsAt w' nb (nots r (needs f.bl rc s f.bl.length)) ∧ W.grownBy w' (some nb) := by
  have HSS : Hid (∀ W, Below w0.heap.size w0 W → Stands W f L r) := Lib.hid fun W hW => h0.after hW
  have HG := Lib.hid h0.good
  have HFI := Lib.hid h0.fits
  have HREG := Lib.hid h0.reg
  have hr4 := h0.r4
  have hbl4 : f.bl.length ≤ 4096 := h0.good.b4
  have hbl5 : (f.bl.length : Int) ≤ 4096 := by omega
  have HW := Lib.hid hw
  have HN := Lib.hid hn
  have HK := Lib.hid hk
  have hnl := hn.lt
  have hws := hw.size
  clear h0 hw hn hk
  obtain ⟨SA, sc, BA, bc, OA, oc, AA, ac⟩ := L
  unfold fnV
  simp only
  have HA1 : Hid (Below W.heap.size W ((W.alloc (.cells #[.pointer (some ⟨kb, 0, none⟩)] 121)).alloc (FObj f ⟨SA, sc, BA, bc, OA, oc, AA, ac⟩))) := Lib.hid (((Below.refl _ _).alloc (Nat.le_refl _) _).alloc (by simp) _)
  have HV : Hid (FBox ((W.alloc (.cells #[.pointer (some ⟨kb, 0, none⟩)] 121)).alloc (FObj f ⟨SA, sc, BA, bc, OA, oc, AA, ac⟩)) (W.heap.size + 1) f ⟨SA, sc, BA, bc, OA, oc, AA, ac⟩) := Lib.hid (by have := heap_alloc_new (W.alloc (.cells #[.pointer (some ⟨kb, 0, none⟩)] 121)) (FObj f ⟨SA, sc, BA, bc, OA, oc, AA, ac⟩); rw [World.size_alloc] at this; exact this)
  have HT : Hid (((W.alloc (.cells #[.pointer (some ⟨kb, 0, none⟩)] 121)).alloc (FObj f ⟨SA, sc, BA, bc, OA, oc, AA, ac⟩)).heap[W.heap.size]? = some (.cells #[.pointer (some ⟨kb, 0, none⟩)] 121 (0, 0))) := Lib.hid ((heap_alloc_lt _ _ (by simp)).trans (heap_alloc_new W _))
  unfold FObj at HA1 HV HT
  simp only at HA1 HV HT
  go_enter Tryz.func65, Tryz.ntmps65
  go_wp2_with (first
    | (go_at_call 59; go_loud ((refine (Reached_59x f ⟨SA, sc, BA, bc, OA, oc, AA, ac⟩ r _ (HSS.out _ (HW.out.trans (HA1.out.mono hws)))).mono ?_; rintro e w1 ⟨rb, rc, rfl, hrc, hrl, hfo, hb1, hrb9⟩; have hrbn : rb ≠ nb := (by rw [World.size_alloc, World.size_alloc] at hrb9; omega); clear hrb9; have hb2 := HA1.out.trans (hb1.mono HA1.out.size); have hv1 : FBox w1 (W.heap.size + 1) f ⟨SA, sc, BA, bc, OA, oc, AA, ac⟩ := HV.out.after hb1; have ht1 := (hb1.block W.heap.size (by simp; omega)).trans HT.out; obtain ⟨c0, c1, c2, c3, c4⟩ := hv1.cells; have HB2 := Lib.hid hb2; have HRC := Lib.hid hrc; have HRL := Lib.hid hrl; have HFO := Lib.hid hfo; have HT1 := Lib.hid ht1; have HV1 := Lib.hid hv1; clear hrc hrl hfo hb1 hb2 hv1 ht1)))
    | (go_at_call 11; go_loud ((refine (Live_11 f ⟨SA, sc, BA, bc, OA, oc, AA, ac⟩ r _ (HSS.out _ (HW.out.trans (HB2.out.mono hws)))).mono ?_; rintro e w2 ⟨rc', s, gi, gq, Ai, ci, Ao, co, rfl, hin, hot, hfo, hli, hb3⟩; have HIN := Lib.hid hin; have HOT := Lib.hid hot; have HFO2 := Lib.hid hfo; have HLI := Lib.hid hli; have hv2 : FBox w2 (W.heap.size + 1) f ⟨SA, sc, BA, bc, OA, oc, AA, ac⟩ := HV1.out.after hb3; have ht2 := (hb3.block W.heap.size ((Array.getElem?_eq_some_iff.1 HT1.out).1)).trans HT1.out; obtain ⟨d0, d1, d2, d3, d4⟩ := hv2.cells; have HV2 := Lib.hid hv2; have HB3 := Lib.hid hb3; have hvl := hv2.lt; have HT2 := Lib.hid ht2; clear hin hot hfo hli hv2 hb3 ht2 c0 c1 c2 c3 c4))))
  obtain rfl := HFO.out.unique HFO2.out
  have hw12 : w1.heap.size ≤ w2.heap.size := HB3.out.size
  have hww1 : W.heap.size ≤ w1.heap.size := HB2.out.size
  have HL3 := Lib.hid (heap_alloc_new w2 (.cells #[.slice (some ⟨gi, 0, none⟩) f.bl.length f.bl.length, .slice (some ⟨gq, 0, none⟩) f.bl.length f.bl.length] 42))
  have HB4 : Hid (Below w2.heap.size w2 (w2.alloc (.cells #[.slice (some ⟨gi, 0, none⟩) f.bl.length f.bl.length, .slice (some ⟨gq, 0, none⟩) f.bl.length f.bl.length] 42))) := Lib.hid ((Below.refl _ _).alloc (Nat.le_refl _) _)
  have HSZ3 : Hid ((w2.alloc (.cells #[.slice (some ⟨gi, 0, none⟩) f.bl.length f.bl.length, .slice (some ⟨gq, 0, none⟩) f.bl.length f.bl.length] 42)).heap.size = w2.heap.size + 1) := Lib.hid (World.size_alloc _ _)
  generalize w2.alloc (.cells #[.slice (some ⟨gi, 0, none⟩) f.bl.length f.bl.length, .slice (some ⟨gq, 0, none⟩) f.bl.length f.bl.length] 42) = W3 at *
  have HBW3 : Hid (Below W.heap.size W W3) := Lib.hid ((HB2.out.trans (HB3.out.mono hww1)).trans (HB4.out.mono (Nat.le_trans hww1 hw12)))
  have HE0 : Hid (EnvNd W3 W3 nb r (needs f.bl rc s 0)) := Lib.hid ⟨by simpa [needs] using HN.out.below HBW3.out hnl, ⟨rfl, rfl, rfl, Nat.le_refl _, fun _ _ _ => rfl⟩⟩
  have htb3 : W.heap.size < W3.heap.size := by have := HSZ3.out; omega
  have htbn : W.heap.size ≠ nb := by omega
  have HT3 : Hid (W3.heap[W.heap.size]? = some (.cells #[.pointer (some ⟨kb, 0, none⟩)] 121 (0, 0))) := Lib.hid ((HB4.out.block _ (by omega)).trans HT2.out)
  have HK3 : Hid (W3.cell? ⟨kb, 1, none⟩ = some (.slice (some ⟨nb, 0, none⟩) r r)) := Lib.hid ((HBW3.out.cell (p := ⟨kb, 1, none⟩) hkl).trans HK.out)
  have HCALL : Hid (∀ W' l A c (m : List Int), EnvNd W3 W' nb r l → RdP W' (fun g => g < W'.heap.size ∧ g ≠ nb) A (ints m) → (∀ x ∈ m, x < (r : Int)) → m.length ≤ 281474976710656 → Calls Tryz.prog 98 #[.slice A m.length c, .pointer (some ⟨W.heap.size, 0, none⟩)] W' fun e w' => e = .returned (.tuple #[]) ∧ EnvNd W' w' nb r (l ++ m)) := Lib.hid fun W' l A c m he hr hm hml => by
    have hs3 := he.g.size
    refine (need_98 (tb := W.heap.size) (kb := kb) (n := r) (l := l) ((he.old htb3 htbn).trans HT3.out) ((cell_of_heap (p := ⟨kb, 1, none⟩) (he.old (show kb < W3.heap.size by omega) hkn)).trans HK3.out) hkn (by omega) he.b hr hm hml).mono ?_
    rintro e w' ⟨e1, e2, e3⟩
    exact ⟨e1, e2, e3⟩
  have HOK : Hid (InsOk r s) := Lib.hid (by
    have h1 := HG.out.blOk
    rw [HREG.out] at h1
    exact (Lives.ok h1 HLI.out).1)
  have HROW : Hid (∀ (ro : Nat) (g : Nat → List Int) (Ax : Nat → Option Addr) (cx : Nat → Nat), RowsP w2 (fun g => w1.heap.size ≤ g ∧ g < w2.heap.size) (some ⟨ro, 0, none⟩) ((List.range f.bl.length).map g) Ax cx → ∀ i, i < f.bl.length → ∀ W' l, EnvNd W3 W' nb r l → W'.cell? ⟨ro, i, none⟩ = some (.slice (Ax i) (g i).length (cx i)) ∧ RdP W' (fun g => g < W'.heap.size ∧ g ≠ nb) (Ax i) (ints (g i))) := Lib.hid fun ro g Ax cx hrows i hi W' l he => by
    have hkp : ∀ k, w1.heap.size ≤ k ∧ k < w2.heap.size → W'.heap[k]? = w2.heap[k]? := fun k hk => (he.old (by have := HSZ3.out; omega) (by omega)).trans (HB4.out.block k hk.2)
    have hs := he.g.size
    have hgi : ((List.range f.bl.length).map g)[i]? = some (g i) := by rw [List.getElem?_map, List.getElem?_range hi]; rfl
    obtain ⟨ad, e, hb, hc⟩ := hrows.row (by simp; omega)
    have hc2 := hc i _ hgi
    rw [← Option.some.inj e, add_none] at hc2
    rw [← Option.some.inj e] at hb
    refine ⟨(cell_of_heap (p := ⟨ro, i, none⟩) (hkp ro hb)).trans hc2, (hrows.rd i _ hgi).keep fun k hk => ⟨⟨by have := HSZ3.out; omega, by omega⟩, hkp k hk⟩⟩
  have x4 := (cell_of_heap (p := ⟨W.heap.size + 1, 4, none⟩) (HB4.out.block (W.heap.size + 1) hvl)).trans d4
  clear d0 d1 d2 d3 d4
  go_loopg [29] f.bl.length (fun N t wr => ∃ i, i ≤ f.bl.length ∧ N = f.bl.length - i ∧ t = .int .i64 i ∧ EnvNd W3 wr nb r (needs f.bl rc s i))
  case atStart => exact ⟨0, by omega, rfl, rfl, HE0.out⟩
  case round =>
    obtain ⟨i, hi, rfl, rfl, he⟩ := hrel
    by_cases hlt : i < f.bl.length
    · have hltI : (i : Int) < (f.bl.length : Int) := by omega
      have hbw := (HW.out.trans (HBW3.out.mono hws))
      have hst := (HSS.out _ (he.below hbw hn0)).fn
      obtain ⟨ad, p, x, e1, hx, hp, hpl, a0, a1, a2, a3, a4, a5⟩ := bl_at hst.bls hlt
      obtain rfl := e1
      have hrl : i < rc.length := by rw [HRL.out]; exact hlt
      have hc : rc[i]? = some rc[i] := List.getElem?_eq_getElem hrl
      have hrb3 : BoolsAt W3 rb rc := (HB4.out.block _ (Nat.lt_of_lt_of_le HRC.out.lt hw12)).trans ((HB3.out.block _ HRC.out.lt).trans HRC.out)
      have hrbw : BoolsAt wr rb rc := (he.old hrb3.lt hrbn).trans hrb3
      have d0 := hrbw.cell hc
      have HX := Lib.hid hx
      have HC := Lib.hid hc
      have HEW := Lib.hid he
      have he4 := he.alloc (.cells #[.slice (OA i) x.ops.length (oc i), .int .i64 x.ex.k, .int .i64 x.ex.a, .int .i64 x.ex.d, .int .i64 x.ex.to, .int .i64 x.ex.els] 52)
      have HE4 := Lib.hid he4
      have HB4W := Lib.hid (heap_alloc_new wr (.cells #[.slice (OA i) x.ops.length (oc i), .int .i64 x.ex.k, .int .i64 x.ex.a, .int .i64 x.ex.d, .int .i64 x.ex.to, .int .i64 x.ex.els] 52))
      have HST := Lib.hid hst
      have hrbl : rb < wr.heap.size := hrbw.lt
      have hs3w : W3.heap.size ≤ wr.heap.size := he.g.size
      clear he hx hc hrb3 hrbw he4 hst hbw
      cases hci : rc[i] with
      | false =>
        rw [hci] at d0 HC
        have HNX : Hid (needs f.bl rc s (i + 1) = needs f.bl rc s i) := Lib.hid (by
          rw [needs_succ]
          have : needAt f.bl rc s i = [] := by
            unfold needAt
            rw [HX.out, HC.out]
            split <;> simp
          rw [this, List.append_nil])
        clear hci
        go_wp2_with fail
        go_roundg (f.bl.length - (i + 1))
        case measure => omega
        case rel => exact ⟨i + 1, by omega, rfl, by go_num, by rw [HNX.out]; exact HE4.out⟩
      | true =>
        rw [hci] at d0 HC
        clear hci
        have hli : liveIn rc s i = list (inAt s i) := by unfold liveIn; rw [HC.out]; rfl
        have hlo : liveOut f.bl rc s i = list (ends (once (exitTo x.ex)) x.ex s) := by unfold liveOut; rw [HX.out]; simp only; rw [HC.out]; rfl
        have HNX : Hid (needs f.bl rc s (i + 1) = needs f.bl rc s i ++ liveIn rc s i ++ liveOut f.bl rc s i ++ x.ops.flatMap (fun o => o.d :: readsOp o) ++ exitRegs x.ex ++ (if x.ex.k = 4 then [x.ex.d] else [])) := Lib.hid (by
          rw [needs_succ, hli, hlo]
          have : needAt f.bl rc s i = needB f.bl s i x (once (exitTo x.ex)) := by
            unfold needAt
            rw [HX.out, tos_get HX.out]
            simp only
            rw [HC.out]
            rfl
          rw [this]
          unfold needB
          simp only [List.append_assoc])
        have HIB : Hid (∀ q ∈ liveIn rc s i, q < (r : Int)) := Lib.hid fun q hq => (liveIn_bd HOK.out i hq).2
        have HOB : Hid (∀ q ∈ liveOut f.bl rc s i, q < (r : Int)) := Lib.hid fun q hq => by rw [hlo] at hq; exact (list_bd (ends_lt HOK.out _ _) hq).2
        have hil : (liveIn rc s i).length ≤ 281474976710656 := Nat.le_trans (liveIn_len rc s i) (by omega)
        have hol : (liveOut f.bl rc s i).length ≤ 281474976710656 := by rw [hlo]; exact Nat.le_trans (list_len _) (by omega)
        obtain ⟨hri, hrd⟩ := HROW.out gi (liveIn rc s) Ai ci HIN.out i hlt _ _ HE4.out
        have HC1 := Lib.hid (HCALL.out _ _ _ (ci i) _ HE4.out hrd HIB.out hil)
        have hlb : w2.heap.size < W3.heap.size := by have := HSZ3.out; omega
        have hlbn : w2.heap.size ≠ nb := by omega
        have HLB : Hid (∀ W' l, EnvNd W3 W' nb r l → W'.cell? ⟨w2.heap.size, 0, none⟩ = some (.slice (some ⟨gi, 0, none⟩) f.bl.length f.bl.length) ∧ W'.cell? ⟨w2.heap.size, 1, none⟩ = some (.slice (some ⟨gq, 0, none⟩) f.bl.length f.bl.length)) := Lib.hid fun W' l he => by
          have := (he.old hlb hlbn).trans HL3.out
          exact ⟨Go.Joins.cell_of_block this 0, Go.Joins.cell_of_block this 1⟩
        obtain ⟨z0, z1⟩ := HLB.out _ _ HE4.out
        have hwbn : wr.heap.size ≠ nb := by omega
        have HROO := Lib.hid (HROW.out gq (liveOut f.bl rc s) Ao co HOT.out i hlt)
        have HOPS : Hid (∀ W', Below w0.heap.size w0 W' → OpsAt W' W'.heap.size (OA i) x.ops (AA i) (ac i)) := Lib.hid fun W' h => (HSS.out W' h).fn.bls.ops i x HX.out
        have HOF : Hid (∀ o ∈ x.ops, o.text.size ≤ maxLen ∧ o.args.length ≤ 1048576 ∧ opB f.regs f.slots.length 4611686018427387904 o = true) := Lib.hid fun o ho => by
          have hxm := List.mem_of_getElem? HX.out
          have h1 := (HFI.out.op x hxm).2 o ho
          exact ⟨by simp only [maxLen]; omega, h1.2, HG.out.op x hxm o ho⟩
        clear hli hlo hrd
        generalize liveIn rc s i = lin at *
        generalize liveOut f.bl rc s i = lot at *
        generalize hOA : OA i = OAi at *
        generalize hoc : oc i = oci at *
        simp only at a0
        rw [hOA, hoc] at a0
        clear hOA hoc
        have hbbl : wr.heap.size < (wr.alloc (.cells #[.slice OAi x.ops.length oci, .int .i64 x.ex.k, .int .i64 x.ex.a, .int .i64 x.ex.d, .int .i64 x.ex.to, .int .i64 x.ex.els] 52)).heap.size := by simp
        go_wp2_with (first
          | (go_at_call 98; (have hnow := HC2); go_loud ((refine HC2.out.mono ?_; rintro e wB ⟨rfl, heB⟩; have heb := HEA.out.trans heB; have hbx := (heb.old hbbl hwbn).trans HB4W.out; have y0 := Go.Joins.cell_of_block hbx 0; have HBXB := Lib.hid hbx; have HEB := Lib.hid heb; have HEB3 := Lib.hid (HE3.out.trans heB); clear heB heb hbx)))
          | (go_at_call 98; go_loud ((refine HC1.out.mono ?_; rintro e wA ⟨rfl, heA⟩; have he3 := HE4.out.trans heA; obtain ⟨z2, z3⟩ := HLB.out _ _ he3; obtain ⟨r2, rd2⟩ := HROO.out _ _ he3; have HC2 := Lib.hid (HCALL.out _ _ _ (co i) _ he3 rd2 HOB.out hol); have HEA := Lib.hid heA; have HE3 := Lib.hid he3; clear heA he3 rd2))))
        have hxb := List.mem_of_getElem? HX.out
        have hopl := ops_le HG.out.sum hxb
        have hopI : (x.ops.length : Int) ≤ 4096 := by omega
        clear HC1 HC2 hnow z0 z1 z2 z3 r2 hri a0 a1 a2 a3 a4 a5 d0
        have hbbB : wr.heap.size < wB.heap.size := Nat.lt_of_lt_of_le hbbl HEB.out.g.size
        generalize wr.heap.size = bb at *
        go_loopg [56] x.ops.length (fun N t wr' => ∃ j, j ≤ x.ops.length ∧ N = x.ops.length - j ∧ t = .int .i64 j ∧ EnvNd wB wr' nb r (needs f.bl rc s i ++ lin ++ lot ++ (x.ops.take j).flatMap (fun o => o.d :: readsOp o)))
        case atStart => exact ⟨0, by omega, rfl, rfl, by simpa using HEB.out.self⟩
        case round =>
          obtain ⟨j, hj, rfl, rfl, he⟩ := hrel
          by_cases hlj : j < x.ops.length
          · have hljI : (j : Int) < (x.ops.length : Int) := by omega
            have he3 := HEB3.out.trans he
            have hbw3 := HW.out.trans (HBW3.out.mono hws)
            have hops := HOPS.out _ (he3.below hbw3 hn0)
            obtain ⟨ad3, p3, o, rfl, ho, hp3, hp3l, o0, o1, o2, o3, o4, o5, o6⟩ := op_at hops hlj
            have hof := HOF.out o (List.mem_of_getElem? ho)
            have hin := op_in hof.2.2 HG.out.r0
            have HTKE : Hid ((x.ops.take (j + 1)).flatMap (fun o => o.d :: readsOp o) = (x.ops.take j).flatMap (fun o => o.d :: readsOp o) ++ [o.d] ++ readsOp o) := Lib.hid (by rw [List.take_add_one, ho, Option.toList_some, List.flatMap_append]; simp)
            have HARG : Hid (∀ W', Below w0.heap.size w0 W' → Rd W' W'.heap.size (AA i j) (ints o.args)) := Lib.hid fun W' h => (HOPS.out W' h).args j o ho
            have HRB : Hid (∀ q ∈ readsOp o, q < (r : Int)) := Lib.hid fun q hq => by have := (hin.reads q hq).2; rw [HREG.out] at this; exact this
            have HDB : Hid (∀ q ∈ [o.d], q < (r : Int)) := Lib.hid fun q hq => by rw [List.mem_singleton] at hq; have := hin.d; rw [HREG.out] at this; rw [hq]; exact this
            have hrl : (readsOp o).length ≤ 281474976710656 := by
              have h9 := List.length_filter_le (fun r => decide (0 ≤ r)) (o.a :: o.b :: o.args)
              have := hof.2.1
              unfold readsOp
              simp only [List.length_cons] at h9
              omega
            have HOK2 := Lib.hid hof
            have HE3 := Lib.hid he3
            clear ho hin hops hof he3 hbw3
            generalize AA i j = AAj at *
            generalize ac i j = acj at *
            have he1 := he.alloc (.cells #[.int .i64 o.k, .int .i64 o.d, .int .i64 o.a, .int .i64 o.b, .int .i64 o.imm, .string o.text, .slice AAj o.args.length acj] 72)
            have he2 := he1.alloc (.cells #[.int .i64 o.d] 3)
            have HE2 := Lib.hid he2
            have he32 := HEB3.out.trans he2
            have HE32 := Lib.hid he32
            have HC6 := Lib.hid (HCALL.out _ _ (some ⟨wr.heap.size + 1, 0, none⟩) 1 [o.d] he32 (rdp_own (base := 0) (by obtain ⟨A', c', e', ho'⟩ := IntsAt.one (wr.alloc (.cells #[.int .i64 o.k, .int .i64 o.d, .int .i64 o.a, .int .i64 o.b, .int .i64 o.imm, .string o.text, .slice AAj o.args.length acj] 72)) 0 (Nat.zero_le _) o.d; rw [World.size_alloc] at e'; injection e' with e1 e2 e3; subst e1; subst e3; exact ho') he32.b) HDB.out (by simp))
            have HBO1 : Hid (((wr.alloc (.cells #[.int .i64 o.k, .int .i64 o.d, .int .i64 o.a, .int .i64 o.b, .int .i64 o.imm, .string o.text, .slice AAj o.args.length acj] 72)).alloc (.cells #[.int .i64 o.d] 3)).heap[wr.heap.size]? = some (.cells #[.int .i64 o.k, .int .i64 o.d, .int .i64 o.a, .int .i64 o.b, .int .i64 o.imm, .string o.text, .slice AAj o.args.length acj] 72 (0, 0))) := Lib.hid ((heap_alloc_lt _ _ (by simp)).trans (heap_alloc_new wr _))
            have hlt6 : wr.heap.size < ((wr.alloc (.cells #[.int .i64 o.k, .int .i64 o.d, .int .i64 o.a, .int .i64 o.b, .int .i64 o.imm, .string o.text, .slice AAj o.args.length acj] 72)).alloc (.cells #[.int .i64 o.d] 3)).heap.size := by simp; omega
            have hnn : wr.heap.size ≠ nb := by have := he.b.lt; omega
            have HHE := Lib.hid he
            clear he he1 he2 he32
            go_wp2_with (first
              | (go_at_call 98; (have hnow := HC7); go_loud ((refine HC7.out.mono ?_; rintro e wZ ⟨rfl, heZ⟩; have HEZ := Lib.hid (HED.out.trans heZ); clear heZ)))
              | (go_at_call 93; (have hnow := HRE); go_loud ((refine HRE.out.mono ?_; rintro e wD ⟨vD, rfl, hvD, hbD⟩; obtain ⟨AD, cD, rfl, hoD⟩ := hvD; have heD := HEC.out.after hbD; have heD3 := HEC3.out.after hbD; have HC7 := Lib.hid (HCALL.out _ _ _ cD _ heD3 (rdp_own hoD heD.b) HRB.out hrl); have HED := Lib.hid heD; clear heD heD3 hbD hoD)))
              | (go_at_call 98; go_loud ((refine HC6.out.mono ?_; rintro e wC ⟨rfl, heC⟩; have hec := HE2.out.trans heC; have hec3 := HE32.out.trans heC; have hob := (heC.old hlt6 hnn).trans HBO1.out; have q0 := Go.Joins.cell_of_block hob 0; have q1 := Go.Joins.cell_of_block hob 1; have q2 := Go.Joins.cell_of_block hob 2; have q3 := Go.Joins.cell_of_block hob 3; have q4 := Go.Joins.cell_of_block hob 4; have q5 := Go.Joins.cell_of_block hob 5; have q6 := Go.Joins.cell_of_block hob 6; have hre := reads_93 f.regs f.slots.length 4611686018427387904 o AAj acj wC HOK2.out.2.2 HG.out.r (by have := HG.out.sl; omega) (Int.le_refl _) (HSS.out wC (hec3.below (HW.out.trans (HBW3.out.mono hws)) hn0)).tabs.keys HOK2.out.1 (by have := HOK2.out.2.1; omega) (HARG.out wC (hec3.below (HW.out.trans (HBW3.out.mono hws)) hn0)); unfold opV at hre; have HRE := Lib.hid hre; have HEC := Lib.hid hec; have HEC3 := Lib.hid hec3; clear hec hec3 heC hob hre o0 o1 o2 o3 o4 o5 o6))))
            go_roundg (x.ops.length - (j + 1))
            case measure => omega
            case rel => exact ⟨j + 1, by omega, rfl, by go_num, by rw [HTKE.out, ← List.append_assoc, ← List.append_assoc]; exact HEZ.out⟩
          · obtain rfl : j = x.ops.length := by omega
            rw [List.take_length] at he
            have hbx := (he.old hbbB hwbn).trans HBXB.out
            have y0 := Go.Joins.cell_of_block hbx 0
            have y1 := Go.Joins.cell_of_block hbx 1
            have y2 := Go.Joins.cell_of_block hbx 2
            have y3 := Go.Joins.cell_of_block hbx 3
            have y4 := Go.Joins.cell_of_block hbx 4
            have y5 := Go.Joins.cell_of_block hbx 5
            have HE9 := Lib.hid he
            have HE93 := Lib.hid (HEB3.out.trans he)
            have hex := exits_91 x.ex wr
            unfold exV ExitsRes at hex
            have HEX := Lib.hid hex
            clear hex
            clear he hbx
            have HXB : Hid (∀ q ∈ exitRegs x.ex, q < (r : Int)) := Lib.hid fun q hq => by have := (exit_regs (HG.out.ex x hxb) q hq).2; rw [HREG.out] at this; exact this
            have hxl : (exitRegs x.ex).length ≤ 281474976710656 := by unfold exitRegs; split <;> (try split) <;> simp
            by_cases hk4 : x.ex.k = 4
            · have HXD : Hid (∀ q ∈ [x.ex.d], q < (r : Int)) := Lib.hid fun q hq => by rw [List.mem_singleton] at hq; have := (exit_set (HG.out.ex x hxb) hk4).2.1; rw [HREG.out] at this; rw [hq]; exact this
              rw [if_pos hk4] at HNX
              have hkb : (x.ex.k == 4) = true := by simpa using hk4
              clear hk4
              go_wp2_with (first
                | (go_at_call 98; (have hnow5 := HC5); go_loud ((refine HC5.out.mono ?_; rintro e wG ⟨rfl, heG⟩; have HEG3 := Lib.hid (HEF3.out.trans heG); clear heG)))
                | (go_at_call 98; (have hnow4 := HC4); go_loud ((refine HC4.out.mono ?_; rintro e wF ⟨rfl, heF⟩; have hef := HEE.out.trans heF; have hbf := (hef.old hbbB hwbn).trans HBXB.out; have q1 := Go.Joins.cell_of_block hbf 1; have q3 := Go.Joins.cell_of_block hbf 3; have HEF := Lib.hid hef; have hef3 := HEE3.out.trans heF; have HC5 := Lib.hid (HCALL.out (wF.alloc (.cells #[.int .i64 x.ex.d] 3)) _ (some ⟨wF.heap.size, 0, none⟩) 1 [x.ex.d] (hef3.alloc _) (rdp_own (base := 0) (by obtain ⟨A', c', e', ho'⟩ := IntsAt.one wF 0 (Nat.zero_le _) x.ex.d; injection e' with e1 e2 e3; subst e1; subst e3; exact ho') (hef3.alloc _).b) HXD.out (by simp)); have HEF3 := Lib.hid (hef3.alloc (.cells #[.int .i64 x.ex.d] 3)); clear heF hef hbf hef3)))
                | (go_at_call 91; go_loud ((refine HEX.out.mono ?_; rintro e wE ⟨v7, u7, rfl, hv7, -, hb7⟩; obtain ⟨A7, c7, rfl, ho7⟩ := hv7; have heE := HE9.out.after hb7; have heE3 := HE93.out.after hb7; have HC4 := Lib.hid (HCALL.out _ _ _ c7 _ heE3 (rdp_own ho7 heE.b) HXB.out hxl); have HEE := Lib.hid heE; have HEE3 := Lib.hid heE3; clear heE heE3 hb7 ho7))))
              go_roundg (f.bl.length - (i + 1))
              case measure => omega
              case rel => exact ⟨i + 1, by omega, rfl, by go_num, by rw [HNX.out]; exact HEG3.out⟩
            · have hk5 : (x.ex.k == 4) = false := by simpa using hk4
              rw [if_neg hk4, List.append_nil] at HNX
              go_wp2_with (first
                | (go_at_call 98; (have hnow4 := HC4); go_loud ((refine HC4.out.mono ?_; rintro e wF ⟨rfl, heF⟩; have hef := HEE.out.trans heF; have hbf := (hef.old hbbB hwbn).trans HBXB.out; have q1 := Go.Joins.cell_of_block hbf 1; have q3 := Go.Joins.cell_of_block hbf 3; have HEF := Lib.hid hef; have HEF3 := Lib.hid (HEE3.out.trans heF); clear heF hef hbf)))
                | (go_at_call 91; go_loud ((refine HEX.out.mono ?_; rintro e wE ⟨v7, u7, rfl, hv7, -, hb7⟩; obtain ⟨A7, c7, rfl, ho7⟩ := hv7; have heE := HE9.out.after hb7; have heE3 := HE93.out.after hb7; have HC4 := Lib.hid (HCALL.out _ _ _ c7 _ heE3 (rdp_own ho7 heE.b) HXB.out hxl); have HEE := Lib.hid heE; have HEE3 := Lib.hid heE3; clear heE heE3 hb7 ho7))))
              go_roundg (f.bl.length - (i + 1))
              case measure => omega
              case rel => exact ⟨i + 1, by omega, rfl, by go_num, by rw [HNX.out]; exact HEF3.out⟩
    · obtain rfl : i = f.bl.length := by omega
      have HE := Lib.hid he
      clear he
      go_wp2_with fail
      go_end0
      exact ⟨rc, s, rfl, HFO.out, HLI.out, HE.out.b, (grown_of_below HBW3.out _).trans HE.out.g⟩
end Go.Proofs.YthgbmhpfblgjcaaGreatDoor.fl
