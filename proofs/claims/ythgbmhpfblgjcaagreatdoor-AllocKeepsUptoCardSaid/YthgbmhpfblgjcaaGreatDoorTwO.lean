/-
  The contract of Analyze of package twice. Conditions: the function stands; the tables stand.
-/
import Derived.Test.YthgbmhpfblgjcaaGreatDoorTwL
set_option linter.unusedVariables false
set_option linter.unusedSimpArgs false
namespace Go.Proofs.YthgbmhpfblgjcaaGreatDoor.fl
open Go.RowKit Go.Shelf
open M T ty
set_option linter.unusedVariables false
set_option maxRecDepth 20000 in
set_option maxHeartbeats 8000000 in
theorem Between_12 (f : Fn) (L : FLay) (r : Nat) (w : World) (h : Stands w f L r) {b : Nat} {x : Bl} (hx : f.bl[b]? = some x) (hk4 : x.ex.k = 4) (hrc : ∀ rc, Found (tos f.bl) (-1) 0 rc → rc[b]? = some true) :
    Calls Tryz.prog 12 #[fnV f L, .int .i64 b] w fun e w' => ∃ v out, e = .returned (.tuple #[v, .int .i64 0]) ∧ Btw f.bl x.ex r out ∧ IntsAt w' w.heap.size v (trues out r) ∧ Below w.heap.size w w' := by
  have hb := h.boxed
  have HLO := Lib.hid (looked_32 f L r _ hb)
  have HAL : Hid (Below w.heap.size w (w.alloc (FObj f L))) := Lib.hid ((Below.refl _ _).alloc (Nat.le_refl _) _)
  have HV : Hid (FBox (w.alloc (FObj f L)) w.heap.size f L) := Lib.hid (heap_alloc_new w _)
  have hg := h.good
  have HG := Lib.hid hg
  have hr4 := h.r4
  have HREG := Lib.hid h.reg
  have hbl4 : f.bl.length ≤ 4096 := hg.b4
  have hbl : b < f.bl.length := (List.getElem?_eq_some_iff.1 hx).1
  have hblI : (b : Int) < (f.bl.length : Int) := by omega
  have HX := Lib.hid hx
  have HK := Lib.hid hk4
  have HRC := Lib.hid hrc
  clear h hb hg hx hk4 hrc
  obtain ⟨SA, sc, BA, bc, OA, oc, AA, ac⟩ := L
  unfold fnV at HLO ⊢
  unfold FObj at HLO HAL HV
  simp only at HLO HAL HV ⊢
  go_enter Tryz.func12, Tryz.ntmps12
  go_wp2_with (first
    | (go_at_call 32; go_loud ((refine HLO.out.mono ?_; rintro e w1 ⟨pb, P, rc, s, rfl, hpa, hfo, hli, hpl, hb1⟩; have hv1 : FBox w1 w.heap.size f ⟨SA, sc, BA, bc, OA, oc, AA, ac⟩ := HV.out.after hb1; obtain ⟨c0, c1, c2, c3, c4⟩ := hv1.cells; have HB1 := Lib.hid (HAL.out.trans (hb1.mono HAL.out.size)); have HIS := Lib.hid (isSet_33 hpa hbl4 HX.out (HRC.out rc hfo)); rw [HK.out] at HIS; have HPA := Lib.hid hpa; have HFO := Lib.hid hfo; clear hv1 hpa hfo hli hb1)))
    | (go_at_call 33; go_loud ((refine HIS.out.mono ?_; rintro e w2 ⟨rfl, rfl⟩)))
    | (go_at_call 35; go_loud ((refine (between_35 HPA.out HG.out HREG.out hr4 HX.out HK.out).mono ?_; rintro e w2 ⟨ob, out, rfl, hbt, hbo, hob, hb2⟩; have HBT := Lib.hid hbt; have HBO := Lib.hid hbo; have HB2 := Lib.hid hb2; have hol := hbt.1; clear hbt hbo hb2)))
    | (go_at_call 37; go_loud ((have HLI := Lib.hid (list_37 ob out w2 HBO.out (by rw [hol]; exact hr4)); rw [hol] at HLI; refine HLI.out.mono ?_; rintro e w3 ⟨v, rfl, hv, hb3⟩; have HV3 := Lib.hid hv; have HB3 := Lib.hid hb3; clear hv hb3))))
  all_goals
    go_ret2
    obtain ⟨A9, c9, e9, ho9⟩ := HV3.out
    exact ⟨_, out, rfl, HBT.out, ⟨A9, c9, e9, own_base ho9 (Nat.le_trans HB1.out.size HB2.out.size)⟩, (HB1.out.trans (HB2.out.mono HB1.out.size)).trans (HB3.out.mono (Nat.le_trans HB1.out.size HB2.out.size))⟩
end Go.Proofs.YthgbmhpfblgjcaaGreatDoor.fl
namespace Go.Proofs.YthgbmhpfblgjcaaGreatDoor.fl
open Go.RowKit Go.Shelf
open M T ty
set_option linter.unusedVariables false
/-- the registers that something between writes, as one list of truths -/
noncomputable def btwOf (bl : List Bl) (x : Ex) (r : Nat) : List Bool := (List.range r).map fun j : Nat => @decide (∃ (b : Nat) (y : Bl), Rch (tos bl) x b ∧ bl[b]? = some y ∧ wby y j) (Classical.propDecidable _)
theorem btwOf_is (bl : List Bl) (x : Ex) (r : Nat) : Btw bl x r (btwOf bl x r) := by
  refine ⟨by simp [btwOf], fun j hj => ?_⟩
  unfold btwOf
  rw [List.getElem?_map, List.getElem?_range hj]
  simp
theorem Btw.eq {bl : List Bl} {x : Ex} {r : Nat} {out : List Bool} (h : Btw bl x r out) : out = btwOf bl x r := h.unique (btwOf_is bl x r)
/-- those of a list that are in a set -/
def among (l : List Int) (out : List Bool) : List Int := l.filter fun q => out[q.toNat]?.getD false
theorem among_snoc {l : List Int} {j : Nat} {q : Int} {c : Bool} (out : List Bool) (h : l[j]? = some q) (hc : out[q.toNat]? = some c) : among (l.take (j + 1)) out = if c then among (l.take j) out ++ [q] else among (l.take j) out := by
  unfold among
  rw [List.take_add_one, h, Option.toList_some, List.filter_append]
  cases c <;> simp [hc]
theorem among_len (l : List Int) (out : List Bool) : (among l out).length ≤ l.length := List.length_filter_le _ _
/-- a set: its block, what it keeps, what of that is at risk -/
abbrev Tw := Nat × List Int × List Int
noncomputable def twAt (f : Fn) (rc : List Bool) (s : Ins) (r b : Nat) : List Tw :=
  match f.bl[b]? with
  | some x => if rc[b]? = some true ∧ x.ex.k = 4 then [(b, less (liveIn rc s x.ex.els.toNat) x.ex.d, among (less (liveIn rc s x.ex.els.toNat) x.ex.d) (btwOf f.bl x.ex r))] else []
  | none => []
noncomputable def anl (f : Fn) (rc : List Bool) (s : Ins) (r k : Nat) : List Tw := (List.range k).flatMap (twAt f rc s r)
theorem anl_succ (f : Fn) (rc : List Bool) (s : Ins) (r k : Nat) : anl f rc s r (k + 1) = anl f rc s r k ++ twAt f rc s r k := by unfold anl; rw [List.range_succ, List.flatMap_append]; simp
theorem anl_len (f : Fn) (rc : List Bool) (s : Ins) (r : Nat) : ∀ k, (anl f rc s r k).length ≤ k
  | 0 => by simp [anl]
  | k + 1 => by
    rw [anl_succ, List.length_append]
    have := anl_len f rc s r k
    have : (twAt f rc s r k).length ≤ 1 := by unfold twAt; split <;> (try split) <;> simp
    omega
/-- a list of numbers in a block of numbers -/
def RdT (W : World) (A : Option Addr) (l : List Int) : Prop := RdP W (fun g => ∃ cs, W.heap[g]? = some (Obj.cells cs 3 (0, 0))) A (ints l)
theorem RdT.keep {W W' : World} {A : Option Addr} {l : List Int} (h : RdT W A l) (hk : ∀ (g : Nat) (cs : Array Value), W.heap[g]? = some (Obj.cells cs 3 (0, 0)) → W'.heap[g]? = W.heap[g]?) : RdT W' A l :=
  RdP.keep h fun g ⟨cs, hg⟩ => ⟨⟨cs, (hk g cs hg).trans hg⟩, hk g cs hg⟩
theorem RdT.below {W W' : World} {A : Option Addr} {l : List Int} (h : RdT W A l) (hb : Below W.heap.size W W') : RdT W' A l := h.keep fun g cs hg => hb.block g (Array.getElem?_eq_some_iff.1 hg).1
theorem RdT.of_own {W : World} {base n c : Nat} {A : Option Addr} {l : List Int} (h : W.ownsRow base 3 1 (.slice A n c) n (ints l)) : RdT W A l := fun hn => by
  obtain ⟨ad, e, hb, hc⟩ := RdP.of_own h hn
  rcases h.2 with ⟨e', -⟩ | ⟨g, cap, cur, e', -, hg, -⟩
  · injection e' with e1
    rw [e] at e1
    cases e1
  · injection e' with e1
    rw [e] at e1
    cases e1
    exact ⟨_, e, ⟨cur, hg⟩, hc⟩
theorem RdT.rd {W : World} {A : Option Addr} {l : List Int} (h : RdT W A l) : Rd W W.heap.size A (ints l) := RdP.rd h fun g ⟨cs, hg⟩ => (Array.getElem?_eq_some_iff.1 hg).1
structure TwsAt (W : World) (xs : List Value) (ts : List Tw) : Prop where
  len : xs.length = ts.length * 3
  get : ∀ (j : Nat) (t : Tw), ts[j]? = some t → ∃ A c A' c', xs[j * 3]? = some (.int .i64 (t.1 : Int)) ∧ xs[j * 3 + 1]? = some (.slice A t.2.1.length c) ∧ xs[j * 3 + 2]? = some (.slice A' t.2.2.length c') ∧ RdT W A t.2.1 ∧ RdT W A' t.2.2
section
variable {W W' : World} {xs : List Value} {ts : List Tw}
theorem TwsAt.nil (W : World) : TwsAt W [] [] := ⟨rfl, fun j t h => by simp at h⟩
theorem TwsAt.keep (h : TwsAt W xs ts) (hk : ∀ (g : Nat) (cs : Array Value), W.heap[g]? = some (Obj.cells cs 3 (0, 0)) → W'.heap[g]? = W.heap[g]?) : TwsAt W' xs ts := by
  refine ⟨h.len, fun j t ht => ?_⟩
  obtain ⟨A, c, A', c', h1, h2, h3, h4, h5⟩ := h.get j t ht
  exact ⟨A, c, A', c', h1, h2, h3, h4.keep hk, h5.keep hk⟩
theorem TwsAt.snoc (h : TwsAt W xs ts) {b : Nat} {k l : List Int} {A A' : Option Addr} {c c' : Nat} (h1 : RdT W A k) (h2 : RdT W A' l) : TwsAt W (xs ++ [.int .i64 (b : Int), .slice A k.length c, .slice A' l.length c']) (ts ++ [(b, k, l)]) := by
  refine ⟨by simp [h.len]; omega, fun j t ht => ?_⟩
  rcases Nat.lt_or_ge j ts.length with hj | hj
  · rw [List.getElem?_append_left hj] at ht
    obtain ⟨B, d, B', d', e1, e2, e3, e4, e5⟩ := h.get j t ht
    have hl := h.len
    exact ⟨B, d, B', d', by rw [List.getElem?_append_left (by omega)]; exact e1, by rw [List.getElem?_append_left (by omega)]; exact e2, by rw [List.getElem?_append_left (by omega)]; exact e3, e4, e5⟩
  · rw [List.getElem?_append_right hj] at ht
    have hj0 : j - ts.length = 0 := by
      have := (List.getElem?_eq_some_iff.1 ht).1
      simp at this
      omega
    rw [hj0] at ht
    cases ht
    have hl := h.len
    have hje : j = ts.length := by omega
    subst hje
    refine ⟨A, c, A', c', ?_, ?_, ?_, h1, h2⟩
    · rw [List.getElem?_append_right (by omega), show ts.length * 3 - xs.length = 0 by omega]; rfl
    · rw [List.getElem?_append_right (by omega), show ts.length * 3 + 1 - xs.length = 1 by omega]; rfl
    · rw [List.getElem?_append_right (by omega), show ts.length * 3 + 2 - xs.length = 2 by omega]; rfl
end
end Go.Proofs.YthgbmhpfblgjcaaGreatDoor.fl
namespace Go.Proofs.YthgbmhpfblgjcaaGreatDoor.fl
open Go.RowKit Go.Shelf
open M T ty
set_option linter.unusedVariables false
theorem info46 : (Tryz.prog.info? 46).map (fun i => (i.zero, i.size, i.bytes)) = some (some (.agg #[.int .i64 0, .slice none 0 0, .slice none 0 0]), 3, 56) := by kernel_rfl
theorem liveIn_len (rc : List Bool) (s : Ins) (b : Nat) : (liveIn rc s b).length ≤ 4096 := by
  unfold liveIn
  split
  · exact list_len _
  · simp
theorem liveIn_bd {rc : List Bool} {s : Ins} {r : Nat} (hs : InsOk r s) (b : Nat) {n : Int} (hn : n ∈ liveIn rc s b) : 0 ≤ n ∧ n < r := by
  unfold liveIn at hn
  split at hn
  · exact list_bd (inAt_lt hs b) hn
  · cases hn
theorem less_mem {l : List Int} {d n : Int} : n ∈ less l d ↔ n ∈ l ∧ n ≠ d := by simp [less]
section
variable {w3 W W' : World} {tb i : Nat} {kv v : Value} {l : List Int}
/-- the variables of Analyze's inner loop stand -/
structure EnvAn (w3 W : World) (tb i : Nat) (kv v : Value) (l : List Int) : Prop where
  g : w3.grownBy W (some tb)
  box : W.heap[tb]? = some (.cells #[.int .i64 (i : Int), kv, v] 46 (0, 0))
  lt : tb < w3.heap.size
  own : W.ownsRow w3.heap.size 3 1 v l.length (ints l)
theorem EnvAn.old (h : EnvAn w3 W tb i kv v l) {g : Nat} (hg : g < w3.heap.size) (hn : g ≠ tb) : W.heap[g]? = w3.heap[g]? := h.g.block g hg (fun e => hn (Option.some.inj e))
theorem EnvAn.app {v' : Value} {l' : List Int} {tmp : Obj} (h : EnvAn w3 W tb i kv v l) (h1 : W'.ownsRow w3.heap.size 3 1 v' l'.length (ints l')) (hg : (W.alloc tmp).grownBy W' v.ownBlock) : W'.heap[tb]? = some (.cells #[.int .i64 (i : Int), kv, v] 46 (0, 0)) ∧ EnvAn w3 (W'.setCell ⟨tb, 2, none⟩ v') tb i kv v' l' := by
  have hs := h.g.size
  have hlt := h.lt
  have key : ∀ g, g < w3.heap.size → W'.heap[g]? = W.heap[g]? := fun g hg' => (hg.block g (by simp; omega) (fun e => by have := (h.own.lt g e.symm).1; omega)).trans (heap_alloc_lt _ _ (by omega))
  have hb := (key tb hlt).trans h.box
  have hne : ∀ b, v'.ownBlock = some b → b ≠ tb := fun b e e' => by have := (h1.lt b e).1; omega
  refine ⟨hb, ⟨⟨hg.os.trans h.g.os, hg.tape.trans h.g.tape, hg.output.trans h.g.output, ?_, fun k hk hn => ?_⟩, heap_set (o := 2) hb v', hlt, own_keep h1 (grown_setCell W' ⟨tb, 2, none⟩ _) (fun b hb' e => hne b hb' (Option.some.inj e).symm)⟩⟩
  · rw [World.size_setCell]
    have := hg.size
    simp at this
    omega
  · have hk' : k ≠ tb := fun e => hn (by rw [e])
    exact (heap_other _ hk').trans ((key k hk).trans (h.g.block k hk hn))
theorem EnvAn.below {wo : World} (h : EnvAn w3 W tb i kv v l) (hb : Below wo.heap.size wo w3) (ht : wo.heap.size ≤ tb) : Below wo.heap.size wo W := hb.grown h.g hb.size (fun g e => by cases e; exact ht)
theorem EnvAn.three (h : EnvAn w3 W tb i kv v l) {g : Nat} {cs : Array Value} (hg : w3.heap[g]? = some (.cells cs 3 (0, 0))) (hb : w3.heap[tb]? = some (.cells #[.int .i64 (i : Int), kv, .slice none 0 0] 46 (0, 0))) : W.heap[g]? = w3.heap[g]? :=
  h.old (Array.getElem?_eq_some_iff.1 hg).1 (fun e => by rw [e, hb] at hg; simp at hg)
theorem off_46 {W : World} {lo g : Nat} {cs : Array Value} {v : Value} {k : Nat} {xs : List Value} (hg : W.heap[g]? = some (.cells cs 3 (0, 0))) (h : W.ownsRow lo 46 3 v k xs) : v.ownBlock ≠ some g := by
  intro e
  rcases h.2 with ⟨rfl, -⟩ | ⟨b, cap, cur, rfl, -, hb, -⟩
  · simp [Value.ownBlock] at e
  · obtain rfl : b = g := by simpa [Value.ownBlock] using e
    rw [hg] at hb
    simp at hb
theorem own_below_46 {b : Nat} {W W' : World} {n : Nat} {v : Value} {xs : List Value} (h : W.ownsRow b 46 3 v n xs) (hb : Below W.heap.size W W') : W'.ownsRow b 46 3 v n xs := own_below_size h hb
end
set_option maxRecDepth 20000 in
set_option maxHeartbeats 8000000 in
theorem Analyze_10 (f : Fn) (L : FLay) (r : Nat) (w : World) (h : Stands w f L r) :
    Calls Tryz.prog 10 #[fnV f L] w fun e w' => ∃ rc s v xs, e = .returned (.tuple #[v, .int .i64 0]) ∧ w'.ownsRow w.heap.size 46 3 v (anl f rc s r f.bl.length).length xs ∧ TwsAt w' xs (anl f rc s r f.bl.length) ∧ Found (tos f.bl) (-1) 0 rc ∧ Lives (tos f.bl) f.bl rc s ∧ Below w.heap.size w w' := by
  have hb := h.boxed
  have HLO := Lib.hid (looked_32 f L r _ hb)
  have HAL : Hid (Below w.heap.size w (w.alloc (FObj f L))) := Lib.hid ((Below.refl _ _).alloc (Nat.le_refl _) _)
  have hg := h.good
  have HG := Lib.hid hg
  have hr4 := h.r4
  have HREG := Lib.hid h.reg
  have hbl4 : f.bl.length ≤ 4096 := hg.b4
  have hbl5 : (f.bl.length : Int) ≤ 4096 := by omega
  clear h hb hg
  obtain ⟨i0, hi, hz0, hz1, hz2⟩ := info_parts info46
  obtain ⟨SA, sc, BA, bc, OA, oc, AA, ac⟩ := L
  unfold fnV at HLO ⊢
  unfold FObj at HLO HAL
  simp only at HLO HAL ⊢
  go_enter Tryz.func10, Tryz.ntmps10
  go_wp2_with (go_at_call 32; go_loud ((refine HLO.out.mono ?_; rintro e w1 ⟨pb, P, rc, s, rfl, hpa, hfo, hli, hpl, hb1⟩; obtain ⟨c2, c4, c5, c6, c7⟩ := hpa.cells; have HB1 := Lib.hid (HAL.out.trans (hb1.mono HAL.out.size)); have HPA := Lib.hid hpa; have HFO := Lib.hid hfo; have HLI := Lib.hid hli; have hpl := hpa.lt; clear hpa hfo hli hb1)))
  have HOK : Hid (InsOk r s) := Lib.hid (by
    have h1 := HG.out.blOk
    rw [HREG.out] at h1
    exact (Lives.ok h1 HLI.out).1)
  clear c2 c4 c5 c6 c7
  go_loopg [26, 6] f.bl.length (fun N a t wr => ∃ i xs, i ≤ f.bl.length ∧ N = f.bl.length - i ∧ a = .int .i64 i ∧ Below w1.heap.size w1 wr ∧ wr.ownsRow w1.heap.size 46 3 t (anl f rc s r i).length xs ∧ TwsAt wr xs (anl f rc s r i))
  case atStart => exact ⟨0, [], by omega, rfl, rfl, Below.refl _ _, by simpa [anl] using World.ownsRow_nil _ _ _ _, by simpa [anl] using TwsAt.nil _⟩
  case round =>
    obtain ⟨i, xs, hil, rfl, rfl, hbw, hown, htw⟩ := hrel
    obtain ⟨A9, c9, rfl, -, -⟩ := own_form hown
    have hpa := (HPA.out.below hbw).more hbw.size
    by_cases hlt : i < f.bl.length
    · have hltI : (i : Int) < (f.bl.length : Int) := by omega
      have hx : f.bl[i]? = some f.bl[i] := List.getElem?_eq_getElem hlt
      have hrl : i < rc.length := by rw [hpa.rlen]; exact hlt
      have hc : rc[i]? = some rc[i] := List.getElem?_eq_getElem hrl
      have HIS := Lib.hid (isSet_33 hpa hbl4 hx hc)
      have HSU := Lib.hid (anl_succ f rc s r i)
      have HTA : Hid (twAt f rc s r i = if rc[i]? = some true ∧ f.bl[i].ex.k = 4 then [(i, less (liveIn rc s f.bl[i].ex.els.toNat) f.bl[i].ex.d, among (less (liveIn rc s f.bl[i].ex.els.toNat) f.bl[i].ex.d) (btwOf f.bl f.bl[i].ex r))] else []) := Lib.hid (by unfold twAt; rw [hx])
      have HX := Lib.hid hx
      have HPW := Lib.hid hpa
      have HBW := Lib.hid hbw
      have HOW := Lib.hid hown
      have HTW := Lib.hid htw
      generalize f.bl[i] = x at *
      cases hv : (rc[i] && decide (x.ex.k = 4)) with
      | false =>
        rw [hv] at HIS
        have HT0 : Hid (anl f rc s r (i + 1) = anl f rc s r i) := Lib.hid (by
          rw [HSU.out, HTA.out, if_neg, List.append_nil]
          rintro ⟨h1, h2⟩
          rw [hc] at h1
          rw [Option.some.inj h1, h2] at hv
          simp at hv)
        clear hx hc hpa hbw hown htw hv
        go_wp2_with (go_at_call 33; refine HIS.out.mono ?_; rintro e w2 ⟨rfl, rfl⟩)
        go_roundg (f.bl.length - (i + 1))
        case measure => omega
        case rel => exact ⟨i + 1, xs, by omega, rfl, by go_num, HBW.out, by rw [HT0.out]; exact HOW.out, by rw [HT0.out]; exact HTW.out⟩
      | true =>
        rw [hv] at HIS
        have hct : rc[i] = true := by revert hv; cases rc[i] <;> simp
        have hk4 : x.ex.k = 4 := by revert hv; cases rc[i] <;> simp
        rw [hct] at hc
        have hes := exit_set (HG.out.ex x (List.mem_of_getElem? hx)) hk4
        obtain ⟨e0, he0⟩ := Int.eq_ofNat_of_zero_le (show 0 ≤ x.ex.els by omega)
        have hel : e0 < f.bl.length := by omega
        have HT0 : Hid (anl f rc s r (i + 1) = anl f rc s r i ++ [(i, less (liveIn rc s e0) x.ex.d, among (less (liveIn rc s e0) x.ex.d) (btwOf f.bl x.ex r))]) := Lib.hid (by
          rw [HSU.out, HTA.out, if_pos ⟨hc, hk4⟩, he0]; rfl)
        have HKE := Lib.hid (kept_34 hpa hbl4 hx he0 hel (liveIn_len rc s e0))
        have HKB : Hid (∀ q ∈ less (liveIn rc s e0) x.ex.d, 0 ≤ q ∧ q < (r : Int)) := Lib.hid fun q hq => liveIn_bd HOK.out e0 (less_mem.1 hq).1
        have hkl : (less (liveIn rc s e0) x.ex.d).length ≤ 4096 := Nat.le_trans (less_len _ _) (liveIn_len _ _ _)
        have HK4 := Lib.hid hk4
        clear hx hc hpa hbw hown htw hv hes hct hk4 he0
        generalize less (liveIn rc s e0) x.ex.d = kl at *
        go_wp2_with (first
          | (go_at_call 33; refine HIS.out.mono ?_; rintro e wo ⟨rfl, rfl⟩)
          | (go_at_call 34; go_loud ((refine HKE.out.mono ?_; rintro e w2 ⟨v, rfl, hv, hb2⟩; obtain ⟨Ak, ck, rfl, hko⟩ := hv; have HKO := Lib.hid hko; have HB2 := Lib.hid hb2; have hb3 := hb2.alloc hb2.size (.cells #[.int .i64 (i : Int), .slice Ak kl.length ck, .slice none 0 0] 46); have HB3 := Lib.hid hb3; have HPX := Lib.hid ((HPW.out.below hb3).more hb3.size); have HBX := Lib.hid (heap_alloc_new w2 (.cells #[.int .i64 (i : Int), .slice Ak kl.length ck, .slice none 0 0] 46)); clear hko hb2 hb3)))
          | (go_at_call 35; go_loud ((refine (between_35 HPX.out HG.out HREG.out hr4 HX.out HK4.out).mono ?_; rintro e w3 ⟨ob, out, rfl, hbt, hbo, hob, hb4⟩; have HBT := Lib.hid hbt; have HBO := Lib.hid hbo; have HB4 := Lib.hid hb4; have hol := hbt.1; have hbx := (hb4.block w2.heap.size (by simp)).trans HBX.out; have x1 := Go.Joins.cell_of_block hbx 1; have HBX3 := Lib.hid hbx; rw [World.size_alloc] at hob; clear hbt hbo hb4 hbx))))
        have hs2 : wo.heap.size ≤ w2.heap.size := HB2.out.size
        have hs3 : w2.heap.size + 1 ≤ w3.heap.size := by have := HB4.out.size; simpa using this
        have HE0 : Hid (EnvAn w3 w3 w2.heap.size i (.slice Ak kl.length ck) (.slice none 0 0) (among (kl.take 0) out)) := Lib.hid ⟨⟨rfl, rfl, rfl, Nat.le_refl _, fun _ _ _ => rfl⟩, HBX3.out, by omega, by simpa [among, ints] using World.ownsRow_nil _ _ _ _⟩
        have HBO3 : Hid (Below wo.heap.size wo w3) := Lib.hid (HB3.out.trans (HB4.out.mono HB3.out.size))
        have HKR : Hid (RdT w3 Ak kl) := Lib.hid ((RdT.of_own HKO.out).below ((((Below.refl w2.heap.size w2).alloc (Nat.le_refl _) (.cells #[.int .i64 (i : Int), .slice Ak kl.length ck, .slice none 0 0] 46))).trans (HB4.out.mono (by simp))))
        have hobt : ob < w3.heap.size := HBO.out.lt
        go_loopg [44] kl.length (fun N a wr => ∃ j v, j ≤ kl.length ∧ N = kl.length - j ∧ a = .int .i64 j ∧ EnvAn w3 wr w2.heap.size i (.slice Ak kl.length ck) v (among (kl.take j) out))
        case atStart => exact ⟨0, _, by omega, rfl, rfl, HE0.out⟩
        case round =>
          obtain ⟨j, v, hj, rfl, rfl, he⟩ := hrel
          have hk3 : RdT wr Ak kl := HKR.out.keep fun g cs hg => he.three hg HBX3.out
          by_cases hlj : j < kl.length
          · obtain ⟨ad2, p2, q, rfl, hq, hp2, -, g0⟩ := rd_int hk3.rd hlj
            obtain ⟨q0, q1⟩ := HKB.out q (List.mem_of_getElem? hq)
            obtain ⟨qn, rfl⟩ := Int.eq_ofNat_of_zero_le q0
            have hlI : (j : Int) < (kl.length : Int) := by omega
            have hqo : qn < out.length := by rw [hol]; omega
            have hoc : out[qn]? = some out[qn] := List.getElem?_eq_getElem hqo
            have ho2 : BoolsAt wr ob out := (he.old hobt (by omega)).trans HBO.out
            have d0 := ho2.cell hoc
            have HSN := Lib.hid (among_snoc out hq (c := out[qn]) (by rw [Int.toNat_natCast]; exact hoc))
            obtain ⟨Av, cv, rfl, -, -⟩ := own_form he.own
            have d2 := Go.Joins.cell_of_block he.box 2
            have hwl : w2.heap.size < wr.heap.size := by have := he.g.size; omega
            have hal := among_len (kl.take j) out
            rw [List.length_take] at hal
            have HE := Lib.hid he
            clear hq ho2 hoc he hk3
            cases hb : out[qn] with
            | false =>
              rw [hb] at d0 HSN
              clear hb
              go_wp2_with fail
              go_roundg (kl.length - (j + 1))
              case measure => omega
              case rel => exact ⟨j + 1, _, by omega, rfl, by go_num, by rw [HSN.out]; exact HE.out⟩
            | true =>
              rw [hb] at d0 HSN
              clear hb
              go_wp2_with (at_builtin; go_loud ((refine wpList_app_one (w := wr.alloc (.cells #[.int .i64 qn] 3)) rfl (.tmp 53) (.tmp 55) rfl (r := (qn : Int)) rfl (HE.out.own.alloc _) rfl (heap_alloc_new wr _) (by omega) (by simp; have := HE.out.g.size; omega) ?_); intro v6 w6 ho6 hg6; obtain ⟨A6, c6, rfl, -, -⟩ := own_form ho6; obtain ⟨hb6, he6⟩ := HE.out.app ho6 hg6; have c62 := Go.Joins.cell_of_block hb6 2; have f62 := Go.Joins.unfrozen_of_block hb6 2; have HE6 := Lib.hid he6; clear ho6 hg6 hb6 he6))
              go_roundg (kl.length - (j + 1))
              case measure => omega
              case rel =>
                have e6 := HSN.out
                simp only [if_true] at e6
                have h6 := HE6.out
                rw [← e6] at h6
                have hl6 : (among (kl.take (j + 1)) out).length = (among (kl.take j) out).length + 1 := by rw [e6]; simp
                rw [hl6] at h6
                exact ⟨j + 1, _, by omega, rfl, by go_num, h6⟩
          · obtain rfl : j = kl.length := by omega
            rw [List.take_length] at he
            have HOUT := Lib.hid HBT.out.eq
            obtain ⟨Av, cv, rfl, -, -⟩ := own_form he.own
            have HBWR := Lib.hid (he.below HBO3.out hs2)
            have y0 := Go.Joins.cell_of_block he.box 0
            have y1 := Go.Joins.cell_of_block he.box 1
            have y2 := Go.Joins.cell_of_block he.box 2
            have HOWN := Lib.hid ((own_below_46 HOW.out HBWR.out).alloc (.cells #[.int .i64 (i : Int), .slice Ak kl.length ck, .slice Av (among kl out).length cv] 46))
            have hal := anl_len f rc s r i
            have hml : (anl f rc s r i).length + 1 ≤ maxLen := by simp only [maxLen]; omega
            have hle : ((anl f rc s r i).length + 1) * 56 ≤ 140737488355328 := by omega
            have hbase : w1.heap.size ≤ (wr.alloc (.cells #[.int .i64 (i : Int), .slice Ak kl.length ck, .slice Av (among kl out).length cv] 46)).heap.size := Nat.le_trans HBW.out.size (Nat.le_trans HBWR.out.size (by simp))
            have HRD : Hid (Rd (wr.alloc (.cells #[.int .i64 (i : Int), .slice Ak kl.length ck, .slice Av (among kl out).length cv] 46)) (wr.alloc (.cells #[.int .i64 (i : Int), .slice Ak kl.length ck, .slice Av (among kl out).length cv] 46)).heap.size (some ⟨wr.heap.size, 0, none⟩) [.int .i64 (i : Int), .slice Ak kl.length ck, .slice Av (among kl out).length cv]) := Lib.hid fun _ => ⟨_, rfl, by simp, fun j u hu => by
              rw [add_none, Go.Joins.cell_of_block (heap_alloc_new wr _) j]
              simpa using hu⟩
            have HONE : Hid (∀ u ∈ [Value.int .i64 (i : Int), .slice Ak kl.length ck, .slice Av (among kl out).length cv], u.oneCell' = true) := Lib.hid (by intro u hu; simp at hu; rcases hu with rfl | rfl | rfl <;> rfl)
            have HE := Lib.hid he
            clear he hk3
            go_wp2_with (at_builtin; go_loud ((refine wpList_append_rd (w := wr.alloc (.cells #[.int .i64 (i : Int), .slice Ak kl.length ck, .slice Av (among kl out).length cv] 46)) rfl (.tmp 59) (.tmp 61) 38 rfl w1.heap.size 46 i0 (.agg #[.int .i64 0, .slice none 0 0, .slice none 0 0]) 3 56 Tryz.underlying38 hi hz0 hz1 hz2 rfl (by omega) (.slice A9 (anl f rc s r i).length c9) (anl f rc s r i).length xs rfl HOWN.out _ (some ⟨wr.heap.size, 0, none⟩) 1 1 [.int .i64 (i : Int), .slice Ak kl.length ck, .slice Av (among kl out).length cv] rfl rfl HRD.out HONE.out hml hle hbase ?_); intro v6 w6 ho6 hg6 _; have HO6 := Lib.hid ho6; have HG6 := Lib.hid hg6; clear ho6 hg6))
            go_roundg (f.bl.length - (i + 1))
            case measure => omega
            case rel =>
              have hkey : ∀ (g : Nat) (cs : Array Value), wr.heap[g]? = some (.cells cs 3 (0, 0)) → w6.heap[g]? = wr.heap[g]? := fun g cs hg => by
                have hgl := (Array.getElem?_eq_some_iff.1 hg).1
                have h1 := heap_alloc_lt wr (.cells #[.int .i64 (i : Int), .slice Ak kl.length ck, .slice Av (among kl out).length cv] 46) hgl
                exact (HG6.out.block g (by simp; omega) (fun e => off_46 (h1.trans hg) HOWN.out e.symm)).trans h1
              have hts := ((HTW.out.keep (W' := wr) fun g cs hg => HBWR.out.block g (Array.getElem?_eq_some_iff.1 hg).1).keep hkey).snoc (b := i) (c := ck) (c' := cv) ((HKR.out.keep fun g cs hg => HE.out.three hg HBX3.out).keep hkey) ((RdT.of_own HE.out.own).keep hkey)
              have hb6 : Below w1.heap.size w1 w6 := ((HBW.out.trans (HBWR.out.mono HBW.out.size)).alloc (Nat.le_trans HBW.out.size HBWR.out.size) _).grown HG6.out hbase (fun g hg => (HOWN.out.lt g hg).1)
              rw [HOUT.out] at hts HO6
              refine ⟨i + 1, xs ++ [.int .i64 (i : Int), .slice Ak kl.length ck, .slice Av (among kl (btwOf f.bl x.ex r)).length cv], by omega, rfl, by go_num, hb6, ?_, by rw [HT0.out]; exact hts⟩
              rw [HT0.out, List.length_append, List.length_singleton]
              exact HO6.out
    · obtain rfl : i = f.bl.length := by omega
      have HF := Lib.hid (And.intro hbw (And.intro hown htw))
      clear hbw hown htw hpa
      go_wp2_with fail
      go_ret2
      exact ⟨rc, s, _, xs, rfl, own_base HF.out.2.1 HB1.out.size, HF.out.2.2, HFO.out, HLI.out, HB1.out.trans (HF.out.1.mono HB1.out.size)⟩
end Go.Proofs.YthgbmhpfblgjcaaGreatDoor.fl
