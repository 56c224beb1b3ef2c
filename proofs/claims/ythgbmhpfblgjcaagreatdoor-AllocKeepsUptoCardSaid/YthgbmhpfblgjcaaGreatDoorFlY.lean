/-
  The contract of Clash of package flow. Conditions: the function stands; the tables stand.
-/
import Derived.Test.YthgbmhpfblgjcaaGreatDoorFlX
import Derived.Test.YthgbmhpfblgjcaaGreatDoorFlZ
set_option linter.unusedVariables false
set_option linter.unusedSimpArgs false
namespace Go.Proofs.YthgbmhpfblgjcaaGreatDoor.fl
open Go.RowKit Go.Shelf
open M T ty
set_option linter.unusedVariables false
/-- the map and its variables, as they are made -/
def W4 (w1 : World) (fb : Nat) : World := (((w1.alloc (.map #[] 0)).alloc (.cells #[.map (some w1.heap.size)] 76)).alloc (.cells #[.func (.func 27) #[] #[.pointer (some ⟨w1.heap.size + 1, 0, none⟩), .pointer (some ⟨fb, 0, none⟩)]] 77)).alloc (.cells #[.func (.func 28) #[] #[.pointer (some ⟨w1.heap.size + 2, 0, none⟩)]] 79)
theorem W4_map (w1 : World) (fb r : Nat) : InvC w1.heap.size fb r (fun _ => 0) (fun g => g = w1.heap.size ∨ g = w1.heap.size + 1 ∨ g = w1.heap.size + 2 ∨ g = w1.heap.size + 3 ∨ ∃ k : Int, (none : Option Nat) = some g) (W4 w1 fb) := by
  refine ⟨fun _ => none, List.replicate r false, .map [], 0, ?_, ?_, by simp, fun _ _ _ => rfl, fun k b h => (by cases h), fun k => ?_, fun k b h => (by cases h), fun k k' b h => (by cases h), fun _ _ => rfl, fun _ => Nat.two_pow_pos r, fun g => Iff.rfl, ?_, ?_, ?_⟩
  · exact (((World.ownsMap_made w1 Tryz.prog 3 Rp).alloc _).alloc _).alloc _
  · simp [unseen]
  · constructor
    · intro h; exact absurd rfl h
    · rintro ⟨_, h⟩
      rw [List.getElem?_replicate] at h
      split at h <;> cases h
  · have h := heap_alloc_new (w1.alloc (.map #[] 0)) (.cells #[.map (some w1.heap.size)] 76)
    rw [World.size_alloc] at h
    exact (heap_alloc_lt _ _ (by simp)).trans ((heap_alloc_lt _ _ (by simp)).trans h)
  · have h := heap_alloc_new ((w1.alloc (.map #[] 0)).alloc (.cells #[.map (some w1.heap.size)] 76)) (.cells #[.func (.func 27) #[] #[.pointer (some ⟨w1.heap.size + 1, 0, none⟩), .pointer (some ⟨fb, 0, none⟩)]] 77)
    rw [World.size_alloc, World.size_alloc] at h
    exact (heap_alloc_lt _ _ (by simp)).trans h
  · have h := heap_alloc_new (((w1.alloc (.map #[] 0)).alloc (.cells #[.map (some w1.heap.size)] 76)).alloc (.cells #[.func (.func 27) #[] #[.pointer (some ⟨w1.heap.size + 1, 0, none⟩), .pointer (some ⟨fb, 0, none⟩)]] 77)) (.cells #[.func (.func 28) #[] #[.pointer (some ⟨w1.heap.size + 2, 0, none⟩)]] 79)
    rw [World.size_alloc, World.size_alloc, World.size_alloc] at h
    exact h
theorem W4_below (w1 : World) (fb : Nat) : Below w1.heap.size w1 (W4 w1 fb) := ((((Below.refl _ _).alloc (Nat.le_refl _) _).alloc (by simp) _).alloc (by simp; omega) _).alloc (by simp; omega) _
/-- the variables of Clash stand -/
structure EnvZ (w0 W : World) (mb fb r : Nat) (C : Cl) (X : Nat → Prop) : Prop where
  b0 : Below w0.heap.size w0 W
  inv : InvC mb fb r C X W
section
variable {w0 W W' : World} {mb fb r : Nat} {C C' : Cl} {X X' : Nat → Prop}
theorem EnvZ.after (h : EnvZ w0 W mb fb r C X) (hb : Below W.heap.size W W') : EnvZ w0 W' mb fb r C X := ⟨h.b0.trans (hb.mono h.b0.size), h.inv.frame (fun g hg => hb.block g (h.inv.xlt g hg)) hb.size⟩
theorem EnvZ.call (h : EnvZ w0 W mb fb r C X) (hm : w0.heap.size ≤ mb) (hi : InvC mb fb r C' X' W') (hb : Bes X W W') : EnvZ w0 W' mb fb r C' X' := ⟨h.b0.trans (hb.below (fun g hg => by have := h.inv.xge g hg; omega) h.b0.size), hi⟩
end
def cl2At (bl : List Bl) (rc : List Bool) (s : Ins) (i : Nat) : Cl := (List.range i).foldl (clSet bl rc s) (cl1 bl rc s)
theorem cl2At_succ (bl : List Bl) (rc : List Bool) (s : Ins) (i : Nat) : cl2At bl rc s (i + 1) = clSet bl rc s (cl2At bl rc s i) i := by
  unfold cl2At
  rw [List.range_succ, List.foldl_append]
  rfl
def cl3At (bl : List Bl) (rc : List Bool) (s : Ins) (i : Nat) : Cl := (List.range i).foldl (clPar s) (cl2 bl rc s)
theorem cl3At_succ (bl : List Bl) (rc : List Bool) (s : Ins) (i : Nat) : cl3At bl rc s (i + 1) = clPar s (cl3At bl rc s i) i := by
  unfold cl3At
  rw [List.range_succ, List.foldl_append]
  rfl
def lsOf (r : Nat) (C : Cl) (left : Lit → Bool) : List (List Int) := (List.range r).map fun j : Nat => if left (.int .i64 (j : Int)) = true then [] else list (C j)
theorem lsOf_len (r : Nat) (C : Cl) (left : Lit → Bool) : (lsOf r C left).length = r := by simp [lsOf]
theorem lsOf_get (r : Nat) (C : Cl) (left : Lit → Bool) (j : Nat) (h : j < r) : (lsOf r C left)[j]? = some (if left (.int .i64 (j : Int)) = true then [] else list (C j)) := by simp [lsOf, List.getElem?_range h]
theorem lsOf_step (r : Nat) (C : Cl) (left : Lit → Bool) (x : Nat) (hx : x < r) : lsOf r C (fun z => left z && !z.sameKey (.int .i64 (x : Int))) = (lsOf r C left).set x (list (C x)) := by
  apply List.ext_getElem?
  intro i
  rw [List.getElem?_set]
  by_cases hi : i < r
  · rw [lsOf_get _ _ _ _ hi, lsOf_get _ _ _ _ hi]
    by_cases e : x = i
    · subst e
      have hl : x < (lsOf r C left).length := by rw [lsOf_len]; exact hi
      simp [Lit.sameKey, hl]
    · rw [if_neg e]
      have : (Lit.int .i64 (i : Int)).sameKey (.int .i64 (x : Int)) = false := by
        simp [Lit.sameKey]
        omega
      simp only [this, Bool.not_false, Bool.and_true]
  · rw [List.getElem?_eq_none (by rw [lsOf_len]; omega)]
    split
    · rw [lsOf_len, if_neg (by omega)]
    · rw [List.getElem?_eq_none (by rw [lsOf_len]; omega)]
theorem list_zero : list 0 = [] := by simp [list]
/-- when nothing has been visited -/
theorem lsOf_start {mb fb r : Nat} {C : Cl} {T : Int → Option Nat} {pr : List Bool} {D : Dat} {n : Nat} {X : Nat → Prop} {W : World} (h : MapC mb fb r C T pr D n X W) : lsOf r C (Maps.has D) = List.replicate r [] := by
  apply List.ext_getElem?
  intro i
  by_cases hi : i < r
  · rw [lsOf_get _ _ _ _ hi, List.getElem?_replicate, if_pos hi]
    cases ht : T (i : Int) with
    | none => rw [h.zero i ht, list_zero]; simp
    | some b => rw [Maps.has_true_of_atKey (h.some _ b ht)]; simp
  · rw [List.getElem?_eq_none (by rw [lsOf_len]; omega), List.getElem?_eq_none (by simp; omega)]
theorem lsOf_end (r : Nat) (C : Cl) (left : Lit → Bool) (h : ∀ kl, left kl = false) : lsOf r C left = (List.range r).map fun k => list (C k) := by
  unfold lsOf
  apply List.map_congr_left
  intro j _
  rw [h]
  simp
/-- an entry that comes is one of the map's sets -/
theorem entry_set {mb fb r : Nat} {C : Cl} {T : Int → Option Nat} {pr : List Bool} {D : Dat} {n : Nat} {X : Nat → Prop} {W : World} (h : MapC mb fb r C T pr D n X W) {x : Int} {c : Option Nat} {y : Dat × List MemPlace} (hv : Rp (ptrO c) = some y) (hat : ∀ zd, D.atKey (.int .i64 x) zd = y.1) : ∃ (q b : Nat), x = q ∧ q < r ∧ c = some b ∧ SetAt W b (C q) r := by
  cases ht : T x with
  | none =>
    have h1 := (h.none x ht .nil).symm.trans (hat .nil)
    have h2 := (h.none x ht (codeP 0)).symm.trans (hat (codeP 0))
    rw [← h1] at h2
    cases h2
  | some b =>
    have h1 := (h.some x b ht .nil).symm.trans (hat .nil)
    obtain ⟨x0, x1⟩ := (h.pre x).1 (by rw [ht]; simp)
    obtain ⟨q, rfl⟩ := Int.eq_ofNat_of_zero_le x0
    have hq : q < r := by
      have := (List.getElem?_eq_some_iff.1 x1).1
      rw [h.len, Int.toNat_natCast] at this
      exact this
    have hs := (h.sets _ b ht).1
    rw [Int.toNat_natCast] at hs
    refine ⟨q, b, rfl, hq, ?_, hs⟩
    obtain ⟨y1, y2⟩ := y
    simp only at h1
    subst h1
    have := Rp_code hv
    cases c with
    | none => simp [ptrO, ptrV] at this
    | some b' =>
      simp [ptrO, ptrV] at this
      rw [this]
theorem Rp_inv {v : Value} {y : Dat × List MemPlace} (h : Rp v = some y) : ∃ c, v = ptrO c := by
  unfold Rp at h
  split at h
  · exact ⟨none, rfl⟩
  · rename_i b
    exact ⟨some b, rfl⟩
  · cases h
theorem clSet_no {bl : List Bl} {rc : List Bool} {s : Ins} {C : Cl} {i : Nat} {x : Bl} (hx : bl[i]? = some x) (h : ¬ (rc[i]? = some true ∧ x.ex.k = 4)) : clSet bl rc s C i = C := by
  unfold clSet
  rw [hx]
  simp only
  rw [if_neg h]
theorem clSet_yes {bl : List Bl} {rc : List Bool} {s : Ins} {C : Cl} {i : Nat} {x : Bl} (hx : bl[i]? = some x) (h : rc[i]? = some true ∧ x.ex.k = 4) : clSet bl rc s C i = wr x.ex.d.toNat (-1) (inAt s x.ex.els) (wr x.ex.d.toNat (-1) (inAt s x.ex.to) C) := by
  unfold clSet
  rw [hx]
  simp only
  rw [if_pos h]
/-- what regions 12 and 13 of Clash read -/
theorem zread {w1 W : World} {mb fb r lb gb g k : Nat} {C : Cl} {X : Nat → Prop} {f : Fn} {L : FLay} {G : GLay} {rc : List Bool} {I : ILay} {s : Ins} {x : Bl} {OA : Option Addr} {oc : Nat} (h : EnvZ w1 W mb fb r C X) (hl : LvAt w1 lb gb f L G rc I r s) (hb : BlBox W g x OA oc) (hk : k < f.bl.length) :
    W.cell? ⟨mb + 3, 0, none⟩ = some (.func (.func 28) #[] #[.pointer (some ⟨mb + 2, 0, none⟩)]) ∧ W.cell? ⟨g, 3, none⟩ = some (.int .i64 x.ex.d) ∧ W.cell? ⟨lb, 1, none⟩ = some (.slice (some ⟨I.ib, 0, none⟩) f.bl.length I.ic) ∧ W.cell? ⟨g, 4, none⟩ = some (.int .i64 x.ex.to) ∧ W.cell? ⟨g, 5, none⟩ = some (.int .i64 x.ex.els) ∧ W.cell? ⟨I.ib, k, none⟩ = some (.pointer (some ⟨I.sb k, 0, none⟩)) := by
  have hl' := hl.after h.b0
  obtain ⟨-, -, e2, e3, e4, e5⟩ := hb.cells
  exact ⟨h.inv.vars.2.2, e3, hl'.cells.2.1, e4, e5, hl'.row k hk⟩
set_option maxRecDepth 20000 in
set_option maxHeartbeats 8000000 in
theorem Clash_9x (f : Fn) (L : FLay) (r : Nat) (w : World) (h : Stands w f L r) :
    Calls Tryz.prog 9 #[fnV f L] w fun e w' => ∃ rc s g A c, e = .returned (.tuple #[.slice (some ⟨g, 0, none⟩) r r, .int .i64 0]) ∧ RowsP w' (fun g => w.heap.size ≤ g ∧ g < w'.heap.size) (some ⟨g, 0, none⟩) ((List.range r).map fun k => list (clash f.params.toNat f.bl rc s k)) A c ∧ Found (tos f.bl) (-1) 0 rc ∧ Lives (tos f.bl) f.bl rc s ∧ (∀ k, clash f.params.toNat f.bl rc s k < 2 ^ r) ∧ Below w.heap.size w w' := by
  have hb := h.boxed
  have HFD := Lib.hid (found_any f L r _ hb)
  have HAL : Hid (Below w.heap.size w (w.alloc (FObj f L))) := Lib.hid ((Below.refl _ _).alloc (Nat.le_refl _) _)
  have HV : Hid (FBox (w.alloc (FObj f L)) w.heap.size f L) := Lib.hid (heap_alloc_new w _)
  have HST := Lib.hid h
  have hr4 := h.r4
  have HSS : Hid (∀ W, Below w.heap.size w W → Stands W f L r) := Lib.hid fun W hW => h.after hW
  have HREG := Lib.hid h.reg
  have hws2 := h.tabs.two
  have hbl4 : (f.bl.length : Int) ≤ 4096 := by have := h.good.b4; omega
  clear h hb
  obtain ⟨SA, sc, BA, bc, OA, oc, AA, ac⟩ := L
  unfold fnV at HFD ⊢
  unfold FObj at HFD HAL HV
  simp only at HFD HAL HV ⊢
  have hmm := @run_makeMap Tryz.prog
  go_enter Tryz.func9, Tryz.ntmps9
  go_wp2_with (go_at_call 22; refine HFD.out.mono ?_; rintro e w1 ⟨lb, gb, G, rc, I, s, rfl, hlv, hfo, hli, hgb, hb1⟩; have hv1 : FBox w1 w.heap.size f ⟨SA, sc, BA, bc, OA, oc, AA, ac⟩ := (hb1.block _ (Array.getElem?_eq_some_iff.1 HV.out).1).trans HV.out; have HLV := Lib.hid hlv; have HFO := Lib.hid hfo; have HLI := Lib.hid hli; have HB1 := Lib.hid (HAL.out.trans (hb1.mono HAL.out.size)); have hgb2 := hgb; rw [World.size_alloc] at hgb2; have hlw := hlv.lt; have hgl := hlv.gr.lt; have HV1 := Lib.hid hv1; clear hlv hfo hli hb1 hv1 hgb)
  clear hmm
  have HEA := Lib.hid (each_23 30 (enters_of Tryz.func30 (by kernel_rfl) rfl) ⟨w1.heap.size + 3, 0, none⟩ (fun o => o.d < (r : Int)) (fun D X W => InvC w1.heap.size w.heap.size r (D.foldl clEv (fun _ => 0)) X W) _ lb gb f ⟨SA, sc, BA, bc, OA, oc, AA, ac⟩ G rc I r s w1 (W4 w1 w.heap.size)
    (clos_30 w1.heap.size w.heap.size r f ⟨SA, sc, BA, bc, OA, oc, AA, ac⟩ w1 HV1.out (Nat.le_refl _) HREG.out hr4 (fun _ => 0)) HLV.out (W4_below w1 w.heap.size) (HSS.out _ HB1.out).tabs (by omega) HST.out.good HST.out.fits (W4_map w1 w.heap.size r) (fun g hg => by rcases hg with h | h | h | h | ⟨k, h⟩ <;> first | omega | cases h)
    (fun x hx o ho => by have := (op_in (HST.out.good.op x hx o ho) HST.out.good.r0).d; rw [HREG.out] at this; exact this))
  have HW4 := Lib.hid (W4_below w1 w.heap.size)
  have hw12 := HB1.out.size
  have hw14 := (W4_below w1 w.heap.size).size
  have HZ5 : Hid (∀ X5 W5, InvC w1.heap.size w.heap.size r (cl1 f.bl rc s) X5 W5 → Bes (fun g => g = w1.heap.size ∨ g = w1.heap.size + 1 ∨ g = w1.heap.size + 2 ∨ g = w1.heap.size + 3 ∨ ∃ k : Int, (none : Option Nat) = some g) (W4 w1 w.heap.size) W5 → EnvZ w1 W5 w1.heap.size w.heap.size r (cl1 f.bl rc s) X5) := Lib.hid fun X5 W5 h1 h2 =>
    ⟨HW4.out.trans (h2.below (fun g hg => by rcases hg with h | h | h | h | ⟨k, h⟩ <;> first | omega | cases h) hw14), h1⟩
  unfold W4 at HEA HZ5
  clear HW4 hw14
  have hfb1 : w.heap.size < w1.heap.size := (Array.getElem?_eq_some_iff.1 HV1.out).1
  refine HEA.out.mono ?_
  rintro e w5 ⟨rfl, X5, hi5, hb5, hs5⟩
  have HZ := Lib.hid (HZ5.out X5 w5 hi5 hb5)
  clear hi5 hb5 hs5 HEA HZ5
  have hv5 : FBox w5 w.heap.size f ⟨SA, sc, BA, bc, OA, oc, AA, ac⟩ := (HZ.out.b0.block _ hfb1).trans HV1.out
  obtain ⟨c0, c1, c2, c3, c4⟩ := hv5.cells
  clear hv5
  generalize hmbe : w1.heap.size = mb at *
  go_wp2_with fail
  clear c0 c1 c2 c3 c4
  go_loopg [32] f.bl.length (fun N t wr => ∃ i X, i ≤ f.bl.length ∧ N = f.bl.length - i ∧ t = .int .i64 i ∧ EnvZ w1 wr mb w.heap.size r (cl2At f.bl rc s i) X)
  case atStart => exact ⟨0, X5, by omega, rfl, rfl, HZ.out⟩
  case round =>
    obtain ⟨i, X, hi, rfl, rfl, hz⟩ := hrel
    clear HZ
    have H := Lib.hid hz
    by_cases hlti : i < f.bl.length
    · have hltI : (i : Int) < (f.bl.length : Int) := by omega
      have hlv := HLV.out.after hz.b0
      obtain ⟨c0, c1, c2, c4, c5, c6⟩ := hlv.cells
      have hbl : BlsAt wr lb BA f.bl OA oc AA ac := hlv.gr.fn.bls
      obtain ⟨ad3, p3, x, rfl, hx, hp3, hpb3, d0, d1, d2, d3, d4, d5⟩ := bl_at hbl hlti
      have hrl : rc.length = f.bl.length := hlv.gr.rlen
      have hri : rc[i]? = some rc[i] := List.getElem?_eq_getElem (by omega)
      have c8 := hlv.gr.rch.cell hri
      have hlb2 : lb < wr.heap.size := hlv.lt
      have hgb3 : gb < wr.heap.size := by omega
      have hrb2 : G.rb < wr.heap.size := Nat.lt_trans hlv.gr.rlt hlv.lt
      have hpb4 : p3.block < wr.heap.size := by omega
      have HSN := Lib.hid (cl2At_succ f.bl rc s i)
      generalize hoo : OA i = OAi at *
      have hal : Below wr.heap.size wr (wr.alloc (.cells #[.slice OAi x.ops.length (oc i), .int .i64 x.ex.k, .int .i64 x.ex.a, .int .i64 x.ex.d, .int .i64 x.ex.to, .int .i64 x.ex.els] 52)) := (Below.refl _ _).alloc (Nat.le_refl _) _
      have HZ2 := Lib.hid (hz.after hal)
      have HBX : Hid (BlBox (wr.alloc (.cells #[.slice OAi x.ops.length (oc i), .int .i64 x.ex.k, .int .i64 x.ex.a, .int .i64 x.ex.d, .int .i64 x.ex.to, .int .i64 x.ex.els] 52)) wr.heap.size x OAi (oc i)) := Lib.hid (heap_alloc_new wr _)
      have hxlt := hz.inv.xlt
      by_cases hcond : rc[i]? = some true ∧ x.ex.k = 4
      · rw [clSet_yes hx hcond] at HSN
        have hri1 : rc[i] = true := by have := hcond.1; rw [hri] at this; exact Option.some.inj this
        rw [hri1] at c8
        have qk : (x.ex.k == 4) = true := by simpa using hcond.2
        obtain ⟨hd0, hdr, ht1, htb, he1, heb, -⟩ := exit_set (HST.out.good.ex x (List.mem_of_getElem? hx)) hcond.2
        rw [HREG.out] at hdr
        obtain ⟨d, hd⟩ := Int.eq_ofNat_of_zero_le hd0
        obtain ⟨t0, ht0⟩ := Int.eq_ofNat_of_zero_le (show 0 ≤ x.ex.to by omega)
        obtain ⟨e0, he0⟩ := Int.eq_ofNat_of_zero_le (show 0 ≤ x.ex.els by omega)
        have hdn : d < r := by omega
        have ht0n : t0 < f.bl.length := by omega
        have he0n : e0 < f.bl.length := by omega
        have ht0I : (t0 : Int) < (f.bl.length : Int) := by omega
        have he0I : (e0 : Int) < (f.bl.length : Int) := by omega
        have hxb : ¬ X wr.heap.size := fun hx => by have := hxlt _ hx; omega
        have HX9 := Lib.hid hxb
        have HWR : Hid (∀ W C X, EnvZ w1 W mb w.heap.size r C X → ∀ k, k < f.bl.length → Calls Tryz.prog 28 #[.int .i64 (d : Int), .int .i64 (-1), .pointer (some ⟨I.sb k, 0, none⟩), .pointer (some ⟨mb + 2, 0, none⟩)] W fun e W' => e = .returned (.tuple #[]) ∧ ∃ X', InvC mb w.heap.size r (fl.wr d (-1) (inAt s k) C) X' W' ∧ Bes X W W' ∧ ∀ g, X' g → X g ∨ W.heap.size ≤ g) := Lib.hid fun W C X hE k hk => by
          have hl1 := HLV.out.after hE.b0
          exact wr_28 mb w.heap.size r f ⟨SA, sc, some ad3, bc, OA, oc, AA, ac⟩ C X W hE.inv ((hE.b0.block _ (by omega)).trans HV1.out) (by omega) HREG.out hr4 (HSS.out W (HB1.out.trans (hE.b0.mono (by omega)))).tabs d hdn (-1) (I.sb k) (inAt s k) (hl1.inAt_set hk) (inAt_lt hl1.ok k)
        have HMB : Hid (w1.heap.size ≤ mb) := Lib.hid (by omega)
        have HZR : Hid (∀ W C X k, EnvZ w1 W mb w.heap.size r C X → BlBox W wr.heap.size x OAi (oc i) → k < f.bl.length → W.cell? ⟨mb + 3, 0, none⟩ = some (.func (.func 28) #[] #[.pointer (some ⟨mb + 2, 0, none⟩)]) ∧ W.cell? ⟨wr.heap.size, 3, none⟩ = some (.int .i64 (d : Int)) ∧ W.cell? ⟨lb, 1, none⟩ = some (.slice (some ⟨I.ib, 0, none⟩) f.bl.length I.ic) ∧ W.cell? ⟨wr.heap.size, 4, none⟩ = some (.int .i64 (t0 : Int)) ∧ W.cell? ⟨wr.heap.size, 5, none⟩ = some (.int .i64 (e0 : Int)) ∧ W.cell? ⟨I.ib, k, none⟩ = some (.pointer (some ⟨I.sb k, 0, none⟩))) := Lib.hid fun W C X k h1 h2 h3 => by
          have := zread h1 HLV.out h2 h3
          rw [hd, ht0, he0] at this
          exact this
        rw [hd, ht0, he0, Int.toNat_natCast] at HSN
        rw [hd] at d3
        rw [ht0] at d4
        rw [he0] at d5
        rw [hd, ht0, he0] at HZ2 HBX
        clear hz hlv hbl hx hri hal hcond hri1 hoo hd0 hdr hd ht0 he0 ht1 htb he1 heb
        go_upto_region 12 with fail
        have hw1 : (wr.alloc (.cells #[.slice OAi x.ops.length (oc i), .int .i64 x.ex.k, .int .i64 x.ex.a, .int .i64 (d : Int), .int .i64 (t0 : Int), .int .i64 (e0 : Int)] 52)).heap.size = wr.heap.size + 1 := World.size_alloc _ _
        have hxs2 : ∀ g, X g → g < wr.heap.size := hxlt
        generalize (wr.alloc (.cells #[.slice OAi x.ops.length (oc i), .int .i64 x.ex.k, .int .i64 x.ex.a, .int .i64 (d : Int), .int .i64 (t0 : Int), .int .i64 (e0 : Int)] 52)) = W1 at *
        have HZ3 := Lib.hid (HZ2.out.after ((Below.refl W1.heap.size W1).drew))
        have HC3 := Lib.hid (HWR.out _ _ _ HZ3.out t0 ht0n)
        have K0 := Lib.hid (HZR.out _ _ _ t0 HZ3.out HBX.out ht0n)
        have hgx : wr.heap.size < W1.heap.size := by omega
        clear hw1 hxs2
        have HG9 := Lib.hid hgx
        clear hgx hxlt hxb
        generalize wr.heap.size = xb at *
        go_region_held3 (fun W => W.cell? ⟨mb + 3, 0, none⟩ = some (.func (.func 28) #[] #[.pointer (some ⟨mb + 2, 0, none⟩)]) ∧ W.cell? ⟨xb, 3, none⟩ = some (.int .i64 (d : Int)) ∧ W.cell? ⟨lb, 1, none⟩ = some (.slice (some ⟨I.ib, 0, none⟩) f.bl.length I.ic) ∧ W.cell? ⟨xb, 4, none⟩ = some (.int .i64 (t0 : Int)) ∧ W.cell? ⟨xb, 5, none⟩ = some (.int .i64 (e0 : Int)) ∧ W.cell? ⟨I.ib, t0, none⟩ = some (.pointer (some ⟨I.sb t0, 0, none⟩)))
          (first | exact K0.out | exact K1.out)
          ((go_at_call 28; refine HC3.out.mono ?_; rintro e w6 ⟨rfl, X6, hi6, hb6, hs6⟩; have HZ6 := Lib.hid (HZ3.out.call HMB.out hi6 hb6); have HBX6 : Hid (BlBox w6 xb x OAi (oc i)) := Lib.hid ((hb6.block xb HG9.out HX9.out).trans HBX.out); have K1 := Lib.hid (HZR.out _ _ _ t0 HZ6.out HBX6.out ht0n); have HS6 := Lib.hid hs6; clear hi6 hb6 hs6))
        go_wp2_with fail
        have HX6 : Hid (¬ X6 xb) := Lib.hid (fun hx => (HS6.out xb hx).elim HX9.out (fun h => by have h' : W1.heap.size ≤ xb := h; have := HG9.out; omega))
        have HZ7 := Lib.hid (HZ6.out.after ((Below.refl w6.heap.size w6).drew))
        have HC7 := Lib.hid (HWR.out _ _ _ HZ7.out e0 he0n)
        have L0 := Lib.hid (HZR.out _ _ _ e0 HZ7.out HBX6.out he0n)
        have HG6 : Hid (xb < w6.heap.size) := Lib.hid ((Array.getElem?_eq_some_iff.1 HBX6.out).1)
        go_region_held3 (fun W => W.cell? ⟨mb + 3, 0, none⟩ = some (.func (.func 28) #[] #[.pointer (some ⟨mb + 2, 0, none⟩)]) ∧ W.cell? ⟨xb, 3, none⟩ = some (.int .i64 (d : Int)) ∧ W.cell? ⟨lb, 1, none⟩ = some (.slice (some ⟨I.ib, 0, none⟩) f.bl.length I.ic) ∧ W.cell? ⟨xb, 4, none⟩ = some (.int .i64 (t0 : Int)) ∧ W.cell? ⟨xb, 5, none⟩ = some (.int .i64 (e0 : Int)) ∧ W.cell? ⟨I.ib, e0, none⟩ = some (.pointer (some ⟨I.sb e0, 0, none⟩)))
          (first | exact L0.out | exact L1.out)
          ((go_at_call 28; refine HC7.out.mono ?_; rintro e w8 ⟨rfl, X8, hi8, hb8, hs8⟩; have HZ8 := Lib.hid (HZ7.out.call HMB.out hi8 hb8); have HBX8 : Hid (BlBox w8 xb x OAi (oc i)) := Lib.hid ((hb8.block xb HG6.out HX6.out).trans HBX6.out); have L1 := Lib.hid (HZR.out _ _ _ e0 HZ8.out HBX8.out he0n); clear hi8 hb8 hs8))
        go_wp2_with fail
        go_roundg (f.bl.length - (i + 1))
        case measure => omega
        case rel => exact ⟨i + 1, X8, by omega, rfl, by go_num, by rw [HSN.out]; exact HZ8.out⟩
      · rw [clSet_no hx hcond] at HSN
        have hcs : rc[i] = false ∨ (rc[i] = true ∧ (x.ex.k == 4) = false) := by
          cases hr9 : rc[i] with
          | false => exact .inl rfl
          | true => exact .inr ⟨rfl, by simpa using (fun h4 => hcond ⟨by rw [hri, hr9], h4⟩)⟩
        clear hz hlv hbl hx hri hal hcond
        rcases hcs with hr1 | ⟨hr1, qk⟩
        all_goals
          rw [hr1] at c8
          clear hr1
          go_wp2_with fail
          go_roundg (f.bl.length - (i + 1))
          case measure => omega
          case rel => exact ⟨i + 1, X, by omega, rfl, by go_num, by rw [HSN.out]; exact HZ2.out⟩
    · obtain rfl : i = f.bl.length := by omega
      have HZ9 : Hid (EnvZ w1 wr mb w.heap.size r (cl3At f.bl rc s 0) X) := Lib.hid hz
      have hv5 : FBox wr w.heap.size f ⟨SA, sc, BA, bc, OA, oc, AA, ac⟩ := (hz.b0.block _ (by omega)).trans HV1.out
      obtain ⟨c0, c1, c2, c3, c4⟩ := hv5.cells
      obtain ⟨pn, hpn⟩ := Int.eq_ofNat_of_zero_le HST.out.good.p0
      rw [hpn] at c1
      have hpr : pn ≤ r := by have := HST.out.good.pr; rw [HREG.out] at this; omega
      have hprI : (pn : Int) ≤ 4096 := by omega
      have HMB : Hid (w1.heap.size ≤ mb) := Lib.hid (by omega)
      have HPN := Lib.hid hpn
      clear hz H hv5 hpn
      go_wp2_with fail
      clear c0 c1 c2 c3 c4
      go_loopg [84] pn (fun N t wr => ∃ i X, i ≤ pn ∧ N = pn - i ∧ t = .int .i64 i ∧ EnvZ w1 wr mb w.heap.size r (cl3At f.bl rc s i) X)
      case atStart => exact ⟨0, X, by omega, rfl, rfl, HZ9.out⟩
      case round =>
        obtain ⟨p, X2, hp, rfl, rfl, hz⟩ := hrel
        clear HZ9
        have H := Lib.hid hz
        by_cases hltp : p < pn
        · have hltI : (p : Int) < (pn : Int) := by omega
          have hlv := HLV.out.after hz.b0
          obtain ⟨c0, c1, c2, c4, c5, c6⟩ := hlv.cells
          have hb1' := HST.out.good.b1
          have c8 := hlv.row 0 (by omega)
          have HHS := Lib.hid (has_31 (I.sb 0) (inAt s 0) r p wr (by omega) (by have := hlv.inAt_set (k := 0) (by omega); exact this))
          have HSN := Lib.hid (cl3At_succ f.bl rc s p)
          have hb0I : (0 : Int) < (f.bl.length : Int) := by omega
          have hb0N : 0 < f.bl.length := by omega
          unfold clPar at HSN
          cases htb : (inAt s 0).testBit p with
          | false =>
            rw [htb] at HHS HSN
            rw [if_neg (by decide)] at HSN
            clear hz hlv htb
            go_wp2_with (go_at_call 31; refine HHS.out.mono ?_; rintro e w5 ⟨rfl, rfl⟩)
            go_roundg (pn - (p + 1))
            case measure => omega
            case rel => exact ⟨p + 1, X2, by omega, rfl, by go_num, by rw [HSN.out]; exact H.out⟩
          | true =>
            rw [htb] at HHS HSN
            rw [if_pos rfl] at HSN
            have HZ3 := Lib.hid (hz.after ((Below.refl wr.heap.size wr).drew))
            have HC3 := Lib.hid (wr_28 mb w.heap.size r f ⟨SA, sc, BA, bc, OA, oc, AA, ac⟩ (cl3At f.bl rc s p) X2 wr.drew HZ3.out.inv ((hz.b0.block _ (by omega)).trans HV1.out) (by omega) HREG.out hr4 (HSS.out wr.drew (HB1.out.trans (HZ3.out.b0.mono (by omega)))).tabs p (by omega) (-1) (I.sb 0) (inAt s 0) (by have := hlv.inAt_set (k := 0) (by omega); exact this) (inAt_lt hlv.ok 0))
            have HK : Hid (∀ W X C, EnvZ w1 W mb w.heap.size r C X → W.cell? ⟨mb + 3, 0, none⟩ = some (.func (.func 28) #[] #[.pointer (some ⟨mb + 2, 0, none⟩)]) ∧ W.cell? ⟨lb, 1, none⟩ = some (.slice (some ⟨I.ib, 0, none⟩) f.bl.length I.ic) ∧ W.cell? ⟨I.ib, 0, none⟩ = some (.pointer (some ⟨I.sb 0, 0, none⟩))) := Lib.hid fun W X C h => ⟨h.inv.vars.2.2, (HLV.out.after h.b0).cells.2.1, (HLV.out.after h.b0).row 0 (by omega)⟩
            have K0 := Lib.hid (HK.out _ _ _ HZ3.out)
            clear hz hlv htb
            go_wp2_with (go_at_call 31; refine HHS.out.mono ?_; rintro e w5 ⟨rfl, rfl⟩)
            go_region_held3 (fun W => W.cell? ⟨mb + 3, 0, none⟩ = some (.func (.func 28) #[] #[.pointer (some ⟨mb + 2, 0, none⟩)]) ∧ W.cell? ⟨lb, 1, none⟩ = some (.slice (some ⟨I.ib, 0, none⟩) f.bl.length I.ic) ∧ W.cell? ⟨I.ib, 0, none⟩ = some (.pointer (some ⟨I.sb 0, 0, none⟩)))
              (first | exact K0.out | exact K1.out)
              ((go_at_call 28; refine HC3.out.mono ?_; rintro e w6 ⟨rfl, X6, hi6, hb6, hs6⟩; have HZ6 := Lib.hid (HZ3.out.call HMB.out hi6 hb6); have K1 := Lib.hid (HK.out _ _ _ HZ6.out); clear hi6 hb6 hs6))
            go_wp2_with fail
            go_roundg (pn - (p + 1))
            case measure => omega
            case rel => exact ⟨p + 1, X6, by omega, rfl, by go_num, by rw [HSN.out]; exact HZ6.out⟩
        · obtain rfl : p = pn := by omega
          obtain ⟨T, pr, D, n, hm⟩ := hz.inv
          have HLT := Lib.hid hm.lt
          have hv5 : FBox wr w.heap.size f ⟨SA, sc, BA, bc, OA, oc, AA, ac⟩ := (hz.b0.block _ (by omega)).trans HV1.out
          obtain ⟨e0, e1, e2, e3, e4⟩ := hv5.cells
          rw [HREG.out] at e2
          have d1 := hz.inv.vars.1
          have hmk := run_make_row' (P := Tryz.prog) 35 27 (.slice none 0 0) 24 Tryz.underlying35 info27 rfl .i64 .i64 r (by omega) (by omega)
          have hml := hm.own.lt
          have hmv := (Array.getElem?_eq_some_iff.1 hm.vm).1
          have hm9 := (Array.getElem?_eq_some_iff.1 hm.vw).1
          have hx9 := hm.xlt
          have HX9 := Lib.hid hx9
          clear hx9
          have hfw : w.heap.size < wr.heap.size := by omega
          have hb1' := hz.b0.size
          have HM := Lib.hid (hm.frame (W' := wr.alloc (.cells (madeCells #[Value.slice none 0 0] r) 27)) (fun g hg => heap_alloc_lt wr _ (hm.xlt g hg)) (by simp))
          have HZB := Lib.hid hz.b0
          have HRW : Hid ((wr.alloc (.cells (madeCells #[Value.slice none 0 0] r) 27)).heap[wr.heap.size]? = some (.cells (List.replicate r nilV).toArray 27 (0, 0))) := Lib.hid (by rw [made_nil]; exact heap_alloc_new wr _)
          clear hz hm hv5 H
          go_wp2_with (at_range; go_loud (refine wpList_range_own _ rfl _ 76 rfl 3 64 key3 Tryz.underlying76 Rp mb n D rfl HM.out.own ?_); intro w6 hrg6 hg6 hs6)
          have HSB : Hid (∀ W, Below w1.heap.size w1 W → Stands W f ⟨SA, sc, BA, bc, OA, oc, AA, ac⟩ r) := Lib.hid fun W hW => HSS.out W (HB1.out.trans (hW.mono (by omega)))
          have hb6 : Below wr.heap.size wr w6 := ((Below.refl wr.heap.size wr).alloc (Nat.le_refl _) _).grown hg6 (by simp) (fun k hk => by cases hk)
          have hrow6 := (hg6.block wr.heap.size (by simp) (by simp)).trans HRW.out
          rw [World.size_alloc] at hrg6 hs6
          have hm6 := HM.out.frame (W' := w6) (fun g hg => hg6.block g (HM.out.xlt g hg) (by simp)) hg6.size
          have HS0 := Lib.hid (lsOf_start HM.out)
          have HM6 := Lib.hid hm6
          have HRG6 := Lib.hid hrg6
          have HL6 : Hid (LRow w6 wr.heap.size (fun g => (w.heap.size ≤ g ∧ g < w6.heap.size) ∧ g ≠ wr.heap.size ∧ g ≠ wr.heap.size + 1) (List.replicate r nilV) (lsOf r (cl3At f.bl rc s p) (Maps.has D))) := Lib.hid (by rw [HS0.out]; exact LRow.zeros r hrow6)
          have HB6 : Hid (Below w1.heap.size w1 w6) := Lib.hid (HZB.out.trans (hb6.mono (by omega)))
          clear hrow6 hg6 hb6 hm6 hrg6 HM HRW
          have hwro : w.heap.size ≤ wr.heap.size := by omega
          generalize hroe : wr.heap.size = ro at *
          generalize hCe : cl3At f.bl rc s p = C at *
          have HCE := Lib.hid hCe
          clear hCe
          go_loopw [13] (fun _ wr => ∃ (left : Lit → Bool) (cnt : Nat) (vs : List Value), wr.ranges Tryz.prog 3 Rp mb (ro + 1) n D left cnt ∧ MapC mb w.heap.size r C T pr D n X2 wr ∧ LRow wr ro (fun g => (w.heap.size ≤ g ∧ g < wr.heap.size) ∧ g ≠ ro ∧ g ≠ ro + 1) vs (lsOf r C left) ∧ Below w1.heap.size w1 wr) (fun _ wr => wr.rangeLeft mb (ro + 1))
          case atStart => exact ⟨_, _, _, HRG6.out, HM6.out, HL6.out, HB6.out⟩
          case round =>
            obtain ⟨left, cnt, vs, hrg, hmm, hlr, hbb⟩ := hrel
            clear HRG6 HM6 HL6 HB6
            go_wp2_with (at_next; refine wpList_next_ranges (α := Int) (β := Option Nat) _ rfl _ rfl 3 key3 Rp (Value.int .i64) ptrO (fun key kl hkey => by obtain ⟨x, rfl, _⟩ := Maps.keyOf_int_inv Tryz.underlying3 hkey; exact ⟨x, rfl⟩) (fun v y hv => Rp_inv hv) mb (ro + 1) n _ _ _ rfl hrg ?_ ?_)
            · intro hc0 hl0
              have HLS := Lib.hid (lsOf_end r C left hl0)
              have HLR := Lib.hid hlr
              have HBB := Lib.hid hbb
              clear hrg hmm hlr hbb
              go_wp2_with fail
              go_ret2
              obtain ⟨A8, c8, h8⟩ := HLR.out.rowsP (Q := fun g => w.heap.size ≤ g ∧ g < wr.heap.size) (fun g hg => hg.1) ⟨hwro, HLR.out.lt⟩
              rw [HLS.out] at h8
              have e9 : f.params.toNat = p := by rw [HPN.out, Int.toNat_natCast]
              have e10 : clash p f.bl rc s = C := HCE.out
              refine ⟨rc, s, ro, A8, c8, rfl, ?_, HFO.out, HLI.out, ?_, HB1.out.trans (HBB.out.mono (by omega))⟩
              · rw [e9, e10]
                exact h8
              · rw [e9, e10]
                exact HLT.out
            · intro x c kl y y2 w7 cnt7 hkey hlk hv hat hrg7 hlt7 hg7 hs7 hen
              obtain ⟨x', ex, rfl, hw9⟩ := Maps.keyOf_int_inv Tryz.underlying3 hkey
              cases ex
              have hrol := hlr.lt
              have hrl := hrg.lt
              have hm7 := hmm.frame (W' := w7) (fun g hg => hg7.block g (by have := HX9.out g hg; omega) (fun e => by have := Option.some.inj e; have := HX9.out g hg; omega)) hg7.size
              obtain ⟨q, b, rfl, hq, rfl, hset⟩ := entry_set hm7 hv hat
              simp only [ptrO, ptrV] at hen
              have hb7 : Below w1.heap.size w1 w7 := hbb.grown hg7 hbb.size (fun k hk => by have := Option.some.inj hk; omega)
              have hlr7 := hlr.keep (W' := w7) (P' := fun g => (w.heap.size ≤ g ∧ g < w7.heap.size) ∧ g ≠ ro ∧ g ≠ ro + 1) (hg7.block ro hrol (fun e => by have := Option.some.inj e; omega)) (fun g hg => ⟨⟨⟨hg.1.1, by omega⟩, hg.2⟩, hg7.block g hg.1.2 (fun e => hg.2.2 (Option.some.inj e))⟩)
              have HLS := Lib.hid (list_any b (C q) r w7 hr4 (hm7.lt q) (HSB.out w7 hb7).tabs hset)
              have HM7 := Lib.hid hm7
              have HB7 := Lib.hid hb7
              have HLR7 := Lib.hid hlr7
              have HRG7 := Lib.hid hrg7
              have HRG := Lib.hid hrg
              have hqI : (q : Int) < (r : Int) := by omega
              have hro7 : ro + 1 < w7.heap.size := by omega
              have HTL := Lib.hid hlt7
              clear hrg hmm hlr hbb hkey hlk hv hat hrg7 hlt7 hg7 hm7 hlr7 hb7 hset
              go_wp2_with (go_at_call 26; refine HLS.out.mono ?_; rintro e w8 ⟨v8, rfl, hv8, hb8⟩; obtain ⟨A8, c8, rfl, ho8⟩ := hv8; have hlr8 := HLR7.out.keep (W' := w8) (P' := fun g => (w.heap.size ≤ g ∧ g < w8.heap.size) ∧ g ≠ ro ∧ g ≠ ro + 1) (hb8.block ro (by omega)) (fun g hg => ⟨⟨⟨hg.1.1, Nat.lt_of_lt_of_le hg.1.2 hb8.size⟩, hg.2⟩, hb8.block g hg.1.2⟩); obtain ⟨vv, e8⟩ := hlr8.some (j := q) (by rw [lsOf_len]; exact hq); have f8 := Go.Joins.unfrozen_of_block hlr8.row q; have HO8 := Lib.hid (RdP.of_own ho8); have HLR8 := Lib.hid hlr8; have HB8 := Lib.hid hb8; clear hlr8 ho8 hb8)
              have hb9 := HB8.out
              have hs9 := hb9.size
              have hrd9 : RdP w8 (fun g => (w.heap.size ≤ g ∧ g < w8.heap.size) ∧ g ≠ ro ∧ g ≠ ro + 1) A8 (ints (list (C q))) := HO8.out.keep fun g hg => ⟨⟨⟨by omega, hg.2⟩, by omega, by omega⟩, rfl⟩
              have hlr9 := HLR8.out.set (j := q) (by rw [lsOf_len]; exact hq) (fun g hg => hg.2.1) (c := c8) hrd9
              rw [← lsOf_step r C left q hq] at hlr9
              have hrg8 := HRG7.out.kept (grown_of_below hb9 none) (by simp) (by simp)
              have hrg9 := hrg8.kept (grown_setCell w8 ⟨ro, q, none⟩ (.slice A8 (list (C q)).length c8)) (by simp; omega) (by simp)
              have hm9 := (HM7.out.frame (W' := w8) (fun g hg => hb9.block g (by have := HX9.out g hg; omega)) hs9).frame (W' := w8.setCell ⟨ro, q, none⟩ (.slice A8 (list (C q)).length c8)) (fun g hg => heap_other _ (by have := HX9.out g hg; omega)) (by rw [World.size_setCell]; exact Nat.le_refl _)
              have hb1 : Below w1.heap.size w1 (w8.setCell ⟨ro, q, none⟩ (.slice A8 (list (C q)).length c8)) := (HB7.out.trans (hb9.mono HB7.out.size)).setCell (p := ⟨ro, q, none⟩) (by show w1.heap.size ≤ ro; omega) _
              go_roundw
              case rel => exact ⟨_, cnt7, _, hrg9, hm9, ⟨hlr9.row, hlr9.lst.keep (fun g hg => ⟨⟨by rw [World.size_setCell]; exact hg.1, hg.2⟩, rfl⟩)⟩, hb1⟩
              case measure => rw [hrg9.left_eq, HRG.out.left_eq]; exact HTL.out
theorem Clash_9 (f : Fn) (L : FLay) (r : Nat) (w : World) (h : Stands w f L r) :
    Calls Tryz.prog 9 #[fnV f L] w fun e w' => ∃ rc s g A c, e = .returned (.tuple #[.slice (some ⟨g, 0, none⟩) r r, .int .i64 0]) ∧ RowsAt w' w'.heap.size (some ⟨g, 0, none⟩) ((List.range r).map fun k => list (clash f.params.toNat f.bl rc s k)) A c ∧ Found (tos f.bl) (-1) 0 rc ∧ Lives (tos f.bl) f.bl rc s ∧ Below w.heap.size w w' := by
  refine (Clash_9x f L r w h).mono ?_
  rintro e w' ⟨rc, s, g, A, c, h1, h2, h3, h4, -, h5⟩
  exact ⟨rc, s, g, A, c, h1, h2.at fun _ hg => hg.2, h3, h4, h5⟩
end Go.Proofs.YthgbmhpfblgjcaaGreatDoor.fl
