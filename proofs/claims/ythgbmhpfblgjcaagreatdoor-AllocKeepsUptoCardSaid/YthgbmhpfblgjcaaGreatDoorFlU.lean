/-
  The contract of Across of package flow. Conditions: the function stands; the tables stand.
-/
import Derived.Test.YthgbmhpfblgjcaaGreatDoorFlS
set_option linter.unusedVariables false
set_option linter.unusedSimpArgs false
namespace Go.Proofs.YthgbmhpfblgjcaaGreatDoor.fl
open Go.RowKit Go.Shelf
open M T ty
set_option linter.unusedVariables false
/-- the inner loop's variables stand -/
structure EnvI (W : World) (Xc : Nat → Prop) (sk m r g : Nat) (x : Bl) (OA : Option Addr) (oc : Nat) : Prop where
  set : SetAt W sk m r
  nset : ¬ Xc sk
  lt : m < 2 ^ r
  box : BlBox W g x OA oc
  nbox : ¬ Xc g
section
variable {W W' : World} {Xc X' : Nat → Prop} {sk m r g : Nat} {x : Bl} {OA : Option Addr} {oc : Nat}
theorem EnvI.slt (h : EnvI W Xc sk m r g x OA oc) : sk < W.heap.size := (Array.getElem?_eq_some_iff.1 h.set).1
theorem EnvI.glt (h : EnvI W Xc sk m r g x OA oc) : g < W.heap.size := (Array.getElem?_eq_some_iff.1 h.box).1
theorem EnvI.after (h : EnvI W Xc sk m r g x OA oc) (hb : Below W.heap.size W W') : EnvI W' Xc sk m r g x OA oc := ⟨(hb.block _ h.slt).trans h.set, h.nset, h.lt, (hb.block _ h.glt).trans h.box, h.nbox⟩
theorem EnvI.other (h : EnvI W Xc sk m r g x OA oc) {k : Nat} (hg : W.grownBy W' (some k)) (h1 : k ≠ sk) (h2 : k ≠ g) : EnvI W' Xc sk m r g x OA oc :=
  ⟨h.set.grown hg (fun e => h1 (Option.some.inj e).symm), h.nset, h.lt, (hg.block _ h.glt (fun e => h2 (Option.some.inj e).symm)).trans h.box, h.nbox⟩
theorem EnvI.step (h : EnvI W Xc sk m r g x OA oc) {m' : Nat} (hg : W.grownBy W' (some sk)) (hs : SetAt W' sk m' r) (hm : m' < 2 ^ r) (hne : sk ≠ g) : EnvI W' Xc sk m' r g x OA oc :=
  ⟨hs, h.nset, hm, (hg.block _ h.glt (fun e => hne (Option.some.inj e).symm)).trans h.box, h.nbox⟩
theorem EnvI.call (h : EnvI W Xc sk m r g x OA oc) (hb : Bes Xc W W') (hs : ∀ g, X' g → Xc g ∨ W.heap.size ≤ g) : EnvI W' X' sk m r g x OA oc := by
  have h1 := h.slt
  have h2 := h.glt
  exact ⟨(hb.block _ h1 h.nset).trans h.set, fun hx => (hs _ hx).elim h.nset (fun h => by omega), h.lt, (hb.block _ h2 h.nbox).trans h.box, fun hx => (hs _ hx).elim h.nbox (fun h => by omega)⟩
end
set_option maxRecDepth 20000 in
set_option maxHeartbeats 8000000 in
theorem each_23 (c : FuncId) (hen : ∀ args W, (callFunc c args).run Tryz.prog W = .ok (.enter c args) W) (q : Addr) (Ok : Op → Prop) (Inv : List (Op × Nat) → (Nat → Prop) → World → Prop) (X : Nat → Prop)
    (lb gb : Nat) (f : Fn) (L : FLay) (G : GLay) (rc : List Bool) (I : ILay) (r : Nat) (s : Ins) (w0 w : World) (hC : Clo c q r w0 Ok Inv) (h : LvAt w0 lb gb f L G rc I r s) (hb0 : Below w0.heap.size w0 w) (hT : Tabs w0) (h2 : 2 ≤ lb) (hg : Good 4611686018427387904 f) (hF : Fits f)
    (hI : Inv [] X w) (hX : ∀ g, X g → w0.heap.size ≤ g) (hOk : ∀ x ∈ f.bl, ∀ o ∈ x.ops, Ok o) :
    Calls Tryz.prog 23 #[.pointer (some ⟨lb, 0, none⟩), .func (.func c) #[] #[.pointer (some q)]] w fun e w' => e = .returned (.tuple #[]) ∧ ∃ X', Inv (evs f.bl rc s f.bl.length) X' w' ∧ Bes X w w' ∧ ∀ g, X' g → X g ∨ w.heap.size ≤ g := by
  have hw := h.after hb0
  have HSC := Lib.hid (second_52 lb gb f L G rc I r s w hw hg)
  have HSL := Lib.hid (second_lt (bl := f.bl) (reached := rc) (s := s) h.ok)
  have hbl4 : (f.bl.length : Int) ≤ 4096 := by have := hg.b4; omega
  have HC := Lib.hid hC
  have HG := Lib.hid hg
  have HX := Lib.hid hX
  have HOKO := Lib.hid hOk
  have HT := Lib.hid hT
  have H0 := Lib.hid h
  have hws := hb0.size
  have hlw : lb < w0.heap.size := h.lt
  have hgw : gb < lb := h.gr.lt
  have HI : Hid (∀ W, Below w.heap.size w W → SetAt W w.heap.size (second f.bl rc s) r → EnvE Inv w0 w W X X [] w.heap.size (second f.bl rc s) r) := Lib.hid fun W hW hs =>
    ⟨hb0.trans (hW.mono hws), Bes.of_below hW, hC.frame _ _ _ _ hI (fun g hg => hW.block g (hC.lt _ _ _ hI g hg)) hW.size, fun g hg => .inl hg, fun g hg => Nat.lt_of_lt_of_le (hC.lt _ _ _ hI g hg) hW.size, hs, fun hx => by have := hC.lt _ _ _ hI _ hx; omega, Nat.le_refl _⟩
  obtain ⟨SA, sc, BA, bc, OA, oc, AA, ac⟩ := L
  clear h hb0 hT hI hX hOk hC hg hw
  generalize hsec : second f.bl rc s = sec at *
  have HSEC := Lib.hid hsec
  clear hsec
  go_enter Tryz.func23, Tryz.ntmps23
  go_wp2_with (go_at_call 52; refine HSC.out.mono ?_; rintro e w1 ⟨rfl, hb1, hs1⟩; have H1 := Lib.hid (HI.out _ hb1 hs1); have hlv1 := H0.out.after H1.out.b0; obtain ⟨c0, c1, c2, c4, c5, c6⟩ := hlv1.cells; clear hb1 hs1 hlv1)
  clear HSC HI
  generalize hcb : w.heap.size = cb at *
  have HWS : Hid (w0.heap.size ≤ w.heap.size) := Lib.hid (by rw [hcb]; exact hws)
  go_loopg [21] f.bl.length (fun N t wr => ∃ i Xc, i ≤ f.bl.length ∧ N = f.bl.length - i ∧ t = .int .i64 i ∧ EnvE Inv w0 w wr X Xc (evs f.bl rc s i) cb sec r)
  case atStart => exact ⟨0, X, by omega, rfl, rfl, H1.out⟩
  case round =>
    obtain ⟨i, Xc, hi, rfl, rfl, he⟩ := hrel
    clear H1 c0 c1 c2 c4 c5 c6
    have H := Lib.hid he
    by_cases hlti : i < f.bl.length
    · have hltI : (i : Int) < (f.bl.length : Int) := by omega
      have hlv := H0.out.after he.b0
      obtain ⟨c0, c1, c2, c4, c5, c6⟩ := hlv.cells
      have hbl : BlsAt wr lb BA f.bl OA oc AA ac := hlv.gr.fn.bls
      obtain ⟨ad3, p3, x, rfl, hx, hp3, hpb3, d0, d1, d2, d3, d4, d5⟩ := bl_at hbl hlti
      have hrl : rc.length = f.bl.length := hlv.gr.rlen
      have hri : rc[i]? = some rc[i] := List.getElem?_eq_getElem (by omega)
      have c8 := hlv.gr.rch.cell hri
      have hlb2 : lb < wr.heap.size := hlv.lt
      have hgb2 : gb < wr.heap.size := by omega
      have hrb2 : G.rb < wr.heap.size := Nat.lt_trans hlv.gr.rlt hlv.lt
      have hpb4 : p3.block < wr.heap.size := by omega
      have HSN := Lib.hid (evs_succ f.bl rc s i)
      generalize hoo : OA i = OAi at *
      have hal : Below wr.heap.size wr (wr.alloc (.cells #[.slice OAi x.ops.length (oc i), .int .i64 x.ex.k, .int .i64 x.ex.a, .int .i64 x.ex.d, .int .i64 x.ex.to, .int .i64 x.ex.els] 52)) := (Below.refl _ _).alloc (Nat.le_refl _) _
      have HE2 := Lib.hid (he.after HC.out hal)
      have HBX : Hid (BlBox (wr.alloc (.cells #[.slice OAi x.ops.length (oc i), .int .i64 x.ex.k, .int .i64 x.ex.a, .int .i64 x.ex.d, .int .i64 x.ex.to, .int .i64 x.ex.els] 52)) wr.heap.size x OAi (oc i)) := Lib.hid (heap_alloc_new wr _)
      cases hrci : rc[i] with
      | false =>
        rw [hrci] at hri c8
        rw [evAt_false hri, List.append_nil] at HSN
        clear he hlv hbl hx hri hal hrci
        go_wp2_with fail
        go_roundg (f.bl.length - (i + 1))
        case measure => omega
        case rel => exact ⟨i + 1, Xc, by omega, rfl, by go_num, by rw [HSN.out]; exact HE2.out⟩
      | true =>
        rw [hrci] at hri c8
        rw [evAt_true hx hri, HSEC.out] at HSN
        have hxm := List.mem_of_getElem? hx
        have hol := ops_le HG.out.sum hxm
        have HPT := Lib.hid (fun (W : World) (hE : EnvE Inv w0 w W X Xc (evs f.bl rc s i) cb sec r) => point_53 lb gb f ⟨SA, sc, some ad3, bc, OA, oc, AA, ac⟩ G rc I r s W (H0.out.after hE.b0) HG.out hF (HT.out.after hE.b0) h2 i x hx x.ops.length (Nat.le_refl _) cb sec hE.sec HSL.out)
        have hpl := point_lt (sec := sec) hlv.ok HSL.out (once (exitTo x.ex)) (by have h9 := HG.out.blOk; rw [hlv.reg, Int.toNat_natCast] at h9; exact h9 _ hxm) x.ops.length
        have hxlt := he.xlt
        have hcbw : cb < wr.heap.size := (Array.getElem?_eq_some_iff.1 he.sec).1
        have HOPS : Hid (OpsAt w0 lb OAi x.ops (AA i) (ac i)) := Lib.hid (by rw [← hoo]; have h8 : BlsAt w0 lb (some ad3) f.bl OA oc AA ac := H0.out.gr.fn.bls; exact h8.ops i x hx)
        have HOPB := Lib.hid (fun o ho => HG.out.op x hxm o ho)
        have HFO := Lib.hid (fun o ho => (hF.op x hxm).2 o ho)
        have HOKX := Lib.hid (fun o ho => HOKO.out x hxm o ho)
        have hreg := hlv.reg
        have HREG := Lib.hid hreg
        have hr4 := hlv.r4
        have HPL := Lib.hid hpl
        have hws2 := he.bes.size
        clear he hlv hbl hx hri hal hrci hpl hreg
        generalize point (once (exitTo x.ex)) x s x.ops.length sec = m0 at *
        go_wp2_with (go_at_call 53; refine (HPT.out _ HE2.out).mono ?_; rintro e w5 ⟨rfl, hb5, hs5⟩; rw [World.size_alloc] at hs5; have HE5 := Lib.hid (HE2.out.after HC.out hb5); have HI5 : Hid (EnvI w5 Xc (wr.heap.size + 1) m0 r wr.heap.size x OAi (oc i)) := Lib.hid ⟨hs5, fun hx => by have := hxlt _ hx; omega, HPL.out, (hb5.block _ (Array.getElem?_eq_some_iff.1 HBX.out).1).trans HBX.out, fun hx => by have := hxlt _ hx; omega⟩; have c9 := HI5.out.box.cells.1; clear hb5 hs5)
        clear HPT HE2 HBX H hxlt c0 c1 c2 c4 c5 c6 c9 d0 d1 d2 d3 d4 d5
        generalize hgg : wr.heap.size = g at *
        go_loopg [8] (0 + x.ops.length) (fun N t wr => ∃ (j : Nat) (e : Int) (m : Nat) (Xd : Nat → Prop) (D : List (Op × Nat)), j ≤ x.ops.length ∧ N = 0 + j ∧ t = .int .i64 e ∧ e = (j : Int) - 1 ∧ EnvE Inv w0 w wr X Xd D cb sec r ∧ EnvI wr Xd (g + 1) m r g x OAi (oc i) ∧ D ++ evR sec (x.ops.take j).reverse m = evs f.bl rc s (i + 1))
        case atStart => exact ⟨x.ops.length, _, m0, Xc, _, by omega, rfl, rfl, by go_num, HE5.out, HI5.out, HSN.out.symm⟩
        case round =>
          obtain ⟨j, e, m, Xd, D, hj, rfl, rfl, he, h5, hi5, hD⟩ := hrel
          clear HE5 HI5
          have H5 := Lib.hid h5
          have HI := Lib.hid hi5
          rcases j with _ | k
          · have hneg : ¬ (0 : Int) ≤ e := by omega
            have HD : Hid (D = evs f.bl rc s (i + 1)) := Lib.hid (by rw [← hD]; simp [evR])
            clear h5 hi5 hD he
            go_wp2_with fail
            go_roundg (f.bl.length - (i + 1))
            case measure => omega
            case rel => exact ⟨i + 1, Xd, by omega, rfl, by go_num, by rw [← HD.out]; exact H5.out⟩
          · have he2 : e = (k : Int) := by omega
            clear he
            subst he2
            have hkl : k < x.ops.length := by omega
            have hkI : (k : Int) < (x.ops.length : Int) := by omega
            obtain ⟨ad5, p5, o, rfl, ho, hp5, hpb5, -⟩ := op_at HOPS.out hkl
            have HOC : Hid (∀ W, Below w0.heap.size w0 W → W.cell? p5 = some (.int .i64 o.k) ∧ W.cell? ⟨p5.block, p5.off + 1, none⟩ = some (.int .i64 o.d) ∧ W.cell? ⟨p5.block, p5.off + 2, none⟩ = some (.int .i64 o.a) ∧ W.cell? ⟨p5.block, p5.off + 3, none⟩ = some (.int .i64 o.b) ∧ W.cell? ⟨p5.block, p5.off + 4, none⟩ = some (.int .i64 o.imm) ∧ W.cell? ⟨p5.block, p5.off + 5, none⟩ = some (.string o.text) ∧ W.cell? ⟨p5.block, p5.off + 6, none⟩ = some (.slice (AA i k) o.args.length (ac i k))) := Lib.hid fun W hW => by
              obtain ⟨ad6, p6, o6, e6, ho6, hp6, -, q0, q1, q2, q3, q4, q5, q6⟩ := op_at HOPS.out hkl
              have e6 := Option.some.inj e6
              subst e6
              rw [ho] at ho6
              have ho6 := Option.some.inj ho6
              subst ho6
              rw [hp5] at hp6
              subst hp6
              exact ⟨(hW.cell (p := p5) (by omega)).trans q0, (hW.cell (p := ⟨p5.block, p5.off + 1, none⟩) (by show p5.block < _; omega)).trans q1, (hW.cell (p := ⟨p5.block, p5.off + 2, none⟩) (by show p5.block < _; omega)).trans q2, (hW.cell (p := ⟨p5.block, p5.off + 3, none⟩) (by show p5.block < _; omega)).trans q3, (hW.cell (p := ⟨p5.block, p5.off + 4, none⟩) (by show p5.block < _; omega)).trans q4, (hW.cell (p := ⟨p5.block, p5.off + 5, none⟩) (by show p5.block < _; omega)).trans q5, (hW.cell (p := ⟨p5.block, p5.off + 6, none⟩) (by show p5.block < _; omega)).trans q6⟩
            have hom := List.mem_of_getElem? ho
            have hoin := op_in (HOPB.out o hom) HG.out.r0
            rw [HREG.out] at hoin
            have HST := Lib.hid (evR_step (sec := sec) (m := m) ho)
            rw [HST.out] at hD
            have HD := Lib.hid hD
            have HMM := Lib.hid hi5.lt
            have hop := HOPB.out o hom
            rw [HREG.out] at hop
            have HFo := HFO.out o hom
            have HW4 := Lib.hid (without_any (g + 1) m r o.d wr hoin.d hr4 hi5.lt hi5.set)
            have HJ5 := Lib.hid (fun W => jumps_55 o (AA i k) (ac i k) W)
            have HDL := Lib.hid (drop_lt (n := o.d) hi5.lt)
            have HJ25 := Lib.hid (fun W bb (hne : bb ≠ cb) (h1 : SetAt W bb (drop m o.d) r) (h2 : SetAt W cb sec r) => join_25 bb cb (drop m o.d) sec r W hr4 (two_r (drop_lt hi5.lt) hr4) (two_r HSL.out hr4) HSL.out hne h1 h2)
            have HRDA := Lib.hid (fun W (hW : Below w0.heap.size w0 W) => ((HOPS.out.args k o ho).below (hW.mono (Nat.le_of_lt hlw))).more (Nat.le_of_lt hlw))
            have HBK := Lib.hid (fun W Xc' (hE : EnvE Inv w0 w W X Xc' (D ++ [(o, behind m o sec)]) cb sec r) (hI' : EnvI W Xc' (g + 1) m r g x (some ad5) (oc i)) =>
              back_56 (g + 1) cb m sec r o (AA i k) (ac i k) f.slots.length 4611686018427387904 lb W hop hr4 (by have := HG.out.sl; omega) (by omega) hI'.lt HSL.out (by omega) (by omega) (by omega) hI'.set hE.sec (HT.out.after hE.b0) (by have := HFo.1; simp only [maxLen]; omega) (by have := HFo.2; omega) ((HOPS.out.args k o ho).below (hE.b0.mono (Nat.le_of_lt hlw))))
            have hlw5 : cb < wr.heap.size := (Array.getElem?_eq_some_iff.1 h5.sec).1
            have hxd := h5.xlt
            have HXD := Lib.hid hxd
            have hgw5 := hi5.glt
            have hsw5 := hi5.slt
            have hcw5 := h5.bes.size
            obtain ⟨q0, q1, q2, q3, q4, q5, q6⟩ := HOC.out _ h5.b0
            have c9 := hi5.box.cells.1
            have HOM := Lib.hid hom
            unfold opV at HJ5 HBK
            clear h5 hi5 hD hop ho hxd hoin HFo
            cases hjj : jumps o with
            | true =>
              have hbh : drop m o.d ||| sec = behind m o sec := by unfold behind; rw [if_pos hjj]
              have HBH := Lib.hid hbh
              rw [hjj] at HJ5
              clear hjj hbh
              go_wp2_with (first
                | (go_at_call 54; refine HW4.out.mono ?_; rintro e6 w6 ⟨rfl, hb6, hs6⟩; have HE6 := Lib.hid (H5.out.after HC.out hb6); have HI6 := Lib.hid (HI.out.after hb6); have HS6 := Lib.hid hs6; clear hb6 hs6 q0 q1 q2 q3 q4 q5 q6 c9; obtain ⟨q0, q1, q2, q3, q4, q5, q6⟩ := HOC.out _ HE6.out.b0; have c9 := HI6.out.box.cells.1)
                | (go_at_call 55; refine (HJ5.out _).mono ?_; rintro e7 w7 ⟨rfl, hb7⟩; have HE7 := Lib.hid (HE6.out.after HC.out hb7); have HI7 := Lib.hid (HI6.out.after hb7); have HS7 : Hid (SetAt w7 wr.heap.size (drop m o.d) r) := Lib.hid ((hb7.block _ (Array.getElem?_eq_some_iff.1 HS6.out).1).trans HS6.out); clear hb7 q0 q1 q2 q3 q4 q5 q6 c9; obtain ⟨q0, q1, q2, q3, q4, q5, q6⟩ := HOC.out _ HE7.out.b0; have c9 := HI7.out.box.cells.1)
                | (go_at_call 25; refine (HJ25.out _ wr.heap.size (by omega) HS7.out HE7.out.sec).mono ?_; rintro e8 w8 ⟨rfl, hg8, hs8⟩; have HE8 := Lib.hid (HE7.out.step HC.out HWS.out (by omega) (fun hx => by have := HXD.out _ hx; omega) (by omega) hg8); have HI8 := Lib.hid (HI7.out.other hg8 (by omega) (by omega)); rw [HBH.out] at hs8; have HS8 := Lib.hid hs8; clear hg8 hs8 q0 q1 q2 q3 q4 q5 q6 c9; obtain ⟨q0, q1, q2, q3, q4, q5, q6⟩ := HOC.out _ HE8.out.b0; have c9 := HI8.out.box.cells.1))
              have HNB : Hid (¬ Xd wr.heap.size) := Lib.hid (fun hx => by have := HXD.out _ hx; omega)
              have HCL := Lib.hid (HC.out.run D Xd _ o (AA i k) (ac i k) wr.heap.size (behind m o sec) HE8.out.inv (HOKX.out o hom) HE8.out.b0 (HRDA.out _ HE8.out.b0) HS8.out (behind_lt HMM.out o HSL.out) HNB.out (HT.out.after HE8.out.b0))
              unfold opV at HCL
              refine HCL.out.mono ?_
              rintro e9 w9 ⟨rfl, X9, hi9, hb9, hs9⟩
              have HE9 := Lib.hid (HE8.out.call HC.out HWS.out HX.out hi9 hb9 hs9)
              have HI9 := Lib.hid (HI8.out.call hb9 hs9)
              clear hi9 hb9 hs9
              obtain ⟨q0, q1, q2, q3, q4, q5, q6⟩ := HOC.out _ HE9.out.b0
              have c9 := HI9.out.box.cells.1
              go_wp2_with (go_at_call 56; refine (HBK.out _ _ HE9.out HI9.out).mono ?_; rintro e10 w10 ⟨rfl, hg10, hs10, hl10⟩; have HE10 := Lib.hid (HE9.out.step HC.out HWS.out (by omega) HI9.out.nset (by omega) hg10); have HI10 := Lib.hid (HI9.out.step hg10 hs10 hl10 (by omega)); clear hg10 hs10 hl10)
              go_roundg (0 + k)
              case measure => omega
              case rel => exact ⟨k, (k : Int) - 1, _, X9, _, by omega, rfl, by go_num, rfl, HE10.out, HI10.out, by rw [List.append_assoc]; exact HD.out⟩
            | false =>
              have hbh : drop m o.d = behind m o sec := by unfold behind; rw [if_neg (by rw [hjj]; decide)]
              have HBH := Lib.hid hbh
              rw [hjj] at HJ5
              clear hjj hbh
              go_wp2_with (first
                | (go_at_call 54; refine HW4.out.mono ?_; rintro e6 w6 ⟨rfl, hb6, hs6⟩; have HE6 := Lib.hid (H5.out.after HC.out hb6); have HI6 := Lib.hid (HI.out.after hb6); have HS6 := Lib.hid hs6; clear hb6 hs6 q0 q1 q2 q3 q4 q5 q6 c9; obtain ⟨q0, q1, q2, q3, q4, q5, q6⟩ := HOC.out _ HE6.out.b0; have c9 := HI6.out.box.cells.1)
                | (go_at_call 55; refine (HJ5.out _).mono ?_; rintro e7 w7 ⟨rfl, hb7⟩; have HE8 := Lib.hid (HE6.out.after HC.out hb7); have HI8 := Lib.hid (HI6.out.after hb7); have HS8 : Hid (SetAt w7 wr.heap.size (behind m o sec) r) := Lib.hid (by rw [← HBH.out]; exact (hb7.block _ (Array.getElem?_eq_some_iff.1 HS6.out).1).trans HS6.out); clear hb7 q0 q1 q2 q3 q4 q5 q6 c9; obtain ⟨q0, q1, q2, q3, q4, q5, q6⟩ := HOC.out _ HE8.out.b0; have c9 := HI8.out.box.cells.1))
              have HNB : Hid (¬ Xd wr.heap.size) := Lib.hid (fun hx => by have := HXD.out _ hx; omega)
              have HCL := Lib.hid (HC.out.run D Xd _ o (AA i k) (ac i k) wr.heap.size (behind m o sec) HE8.out.inv (HOKX.out o hom) HE8.out.b0 (HRDA.out _ HE8.out.b0) HS8.out (behind_lt HMM.out o HSL.out) HNB.out (HT.out.after HE8.out.b0))
              unfold opV at HCL
              refine HCL.out.mono ?_
              rintro e9 w9 ⟨rfl, X9, hi9, hb9, hs9⟩
              have HE9 := Lib.hid (HE8.out.call HC.out HWS.out HX.out hi9 hb9 hs9)
              have HI9 := Lib.hid (HI8.out.call hb9 hs9)
              clear hi9 hb9 hs9
              obtain ⟨q0, q1, q2, q3, q4, q5, q6⟩ := HOC.out _ HE9.out.b0
              have c9 := HI9.out.box.cells.1
              go_wp2_with (go_at_call 56; refine (HBK.out _ _ HE9.out HI9.out).mono ?_; rintro e10 w10 ⟨rfl, hg10, hs10, hl10⟩; have HE10 := Lib.hid (HE9.out.step HC.out HWS.out (by omega) HI9.out.nset (by omega) hg10); have HI10 := Lib.hid (HI9.out.step hg10 hs10 hl10 (by omega)); clear hg10 hs10 hl10)
              go_roundg (0 + k)
              case measure => omega
              case rel => exact ⟨k, (k : Int) - 1, _, X9, _, by omega, rfl, by go_num, rfl, HE10.out, HI10.out, by rw [List.append_assoc]; exact HD.out⟩
    · obtain rfl : i = f.bl.length := by omega
      clear he
      go_wp2_with fail
      go_end0
      exact ⟨rfl, Xc, H.out.inv, H.out.bes, by first | exact H.out.sub | (simpa only [hcb] using H.out.sub)⟩
end Go.Proofs.YthgbmhpfblgjcaaGreatDoor.fl
namespace Go.Proofs.YthgbmhpfblgjcaaGreatDoor.fl
open Go.RowKit Go.Shelf
open M T ty
set_option linter.unusedVariables false
/-- what Across's closure keeps -/
structure InvA (vb ob r : Nat) (D : List (Op × Nat)) (X : Nat → Prop) (W : World) : Prop where
  x : ∀ g, X g ↔ (g = vb ∨ g = ob)
  ne : vb ≠ ob
  var : W.heap[vb]? = some (.cells #[.pointer (some ⟨ob, 0, none⟩)] 64 (0, 0))
  set : SetAt W ob (D.foldl acrossEv 0) r
  lt : D.foldl acrossEv 0 < 2 ^ r
set_option maxRecDepth 20000 in
set_option maxHeartbeats 8000000 in
theorem clos_24 (vb ob r : Nat) (w0 : World) (hr : r ≤ 4096) : Clo 24 ⟨vb, 0, none⟩ r w0 (fun _ => True) (InvA vb ob r) := by
  refine ⟨fun D X W o AA ac b m hI _ _ _ hs hm hx hT => ?_, fun D X W W' hI hk hsz => ⟨hI.x, hI.ne, (hk vb ((hI.x vb).2 (.inl rfl))).trans hI.var, (hk ob ((hI.x ob).2 (.inr rfl))).trans hI.set, hI.lt⟩, fun D X W hI g hg => ?_⟩
  · have hal : Below W.heap.size W (W.alloc (.cells #[.int .i64 o.k, .int .i64 o.d, .int .i64 o.a, .int .i64 o.b, .int .i64 o.imm, .string o.text, .slice AA o.args.length ac] 72)) := (Below.refl _ _).alloc (Nat.le_refl _) _
    have hvl := (Array.getElem?_eq_some_iff.1 hI.var).1
    have hol := (Array.getElem?_eq_some_iff.1 hI.set).1
    have hbl := (Array.getElem?_eq_some_iff.1 hs).1
    have hob : ob ≠ b := fun e => hx ((hI.x b).2 (.inr e.symm))
    have c0 := Go.Joins.cell_of_block ((hal.block _ hvl).trans hI.var) 0
    have HJ := Lib.hid (join_25 ob b (D.foldl acrossEv 0) m r (W.alloc (.cells #[.int .i64 o.k, .int .i64 o.d, .int .i64 o.a, .int .i64 o.b, .int .i64 o.imm, .string o.text, .slice AA o.args.length ac] 72)) hr (two_r hI.lt hr) (two_r hm hr) hm hob ((hal.block _ hol).trans hI.set) ((hal.block _ hbl).trans hs))
    have HI := Lib.hid hI
    have HAL := Lib.hid hal
    have HJL := Lib.hid (join_lt hI.lt hm)
    have hfold : (D ++ [(o, m)]).foldl acrossEv 0 = acrossEv (D.foldl acrossEv 0) (o, m) := by rw [List.foldl_append]; rfl
    have HF := Lib.hid hfold
    by_cases h28 : o.k = 28 ∨ o.k = 29
    · have he : acrossEv (D.foldl acrossEv 0) (o, m) = D.foldl acrossEv 0 ||| m := by unfold acrossEv; rw [if_pos h28]
      have HE := Lib.hid (hfold.trans he)
      have hcs : (o.k == 28) = true ∨ ((o.k == 28) = false ∧ (o.k == 29) = true) := by
        rcases h28 with h | h
        · exact .inl (by simp [h])
        · by_cases h' : o.k = 28
          · exact .inl (by simp [h'])
          · exact .inr ⟨by simpa using h', by simp [h]⟩
      clear hI hs hm hx hT hal hfold he h28
      unfold opV
      rcases hcs with h1 | ⟨h1, h2⟩
      all_goals
        go_enter Tryz.func24, Tryz.ntmps24
        go_wp2_with (go_at_call 25; refine HJ.out.mono ?_; rintro e w1 ⟨rfl, hg1, hs1⟩; have HG1 := Lib.hid hg1; have HS1 := Lib.hid hs1; clear hg1 hs1)
        go_end0
        refine ⟨rfl, X, ⟨HI.out.x, HI.out.ne, ?_, by rw [HE.out]; exact HS1.out, by rw [HE.out]; exact HJL.out⟩, (Bes.of_below (X := X) HAL.out).trans (Bes.of_grown (X := X) HG1.out ((HI.out.x ob).2 (.inr rfl))) (fun g hg => .inl hg), fun g hg => .inl hg⟩
        exact (HG1.out.block vb (by simp; omega) (fun e => HI.out.ne (Option.some.inj e))).trans ((HAL.out.block _ hvl).trans HI.out.var)
    · have he : acrossEv (D.foldl acrossEv 0) (o, m) = D.foldl acrossEv 0 := by unfold acrossEv; rw [if_neg h28]
      have HE := Lib.hid (hfold.trans he)
      have h1 : (o.k == 28) = false := by simpa using (fun h => h28 (.inl h))
      have h2 : (o.k == 29) = false := by simpa using (fun h => h28 (.inr h))
      clear hI hs hm hx hT hal hfold he h28
      unfold opV
      go_enter Tryz.func24, Tryz.ntmps24
      go_wp2_with fail
      go_end0
      exact ⟨rfl, X, ⟨HI.out.x, HI.out.ne, (HAL.out.block _ hvl).trans HI.out.var, by rw [HE.out]; exact (HAL.out.block _ hol).trans HI.out.set, by rw [HE.out]; exact HI.out.lt⟩, Bes.of_below HAL.out, fun g hg => .inl hg⟩
  · have hvl := (Array.getElem?_eq_some_iff.1 hI.var).1
    have hol := (Array.getElem?_eq_some_iff.1 hI.set).1
    rcases (hI.x g).1 hg with rfl | rfl
    · exact hvl
    · exact hol
theorem found_any (f : Fn) (L : FLay) (r : Nat) (w : World) (h : Stands w f L r) :
    Calls Tryz.prog 22 #[fnV f L] w fun e w' => ∃ lb gb G rc I s, e = .returned (.tuple #[.pointer (some ⟨lb, 0, none⟩), .int .i64 0]) ∧ LvAt w' lb gb f L G rc I r s ∧ Found (tos f.bl) (-1) 0 rc ∧ Lives (tos f.bl) f.bl rc s ∧ w.heap.size < gb ∧ Below w.heap.size w w' :=
  found_22 f L w r h.reg h.fn h.tabs h.fits h.ok
set_option maxRecDepth 20000 in
set_option maxHeartbeats 8000000 in
theorem Across_8 (f : Fn) (L : FLay) (r : Nat) (w : World) (h : Stands w f L r) :
    Calls Tryz.prog 8 #[fnV f L] w fun e w' => ∃ rc s v, e = .returned (.tuple #[v, .int .i64 0]) ∧ IntsAt w' w.heap.size v (list (across f.bl rc s)) ∧ Found (tos f.bl) (-1) 0 rc ∧ Lives (tos f.bl) f.bl rc s ∧ Below w.heap.size w w' := by
  have hb := h.boxed
  have HFD := Lib.hid (found_any f L r _ hb)
  have HAL : Hid (Below w.heap.size w (w.alloc (FObj f L))) := Lib.hid ((Below.refl _ _).alloc (Nat.le_refl _) _)
  have HV : Hid (FBox (w.alloc (FObj f L)) w.heap.size f L) := Lib.hid (heap_alloc_new w _)
  have HST := Lib.hid h
  have hr4 := h.r4
  have HSS : Hid (∀ W, Below w.heap.size w W → Stands W f L r) := Lib.hid fun W hW => h.after hW
  have HREG := Lib.hid h.reg
  have hws2 := h.tabs.two
  clear h hb
  obtain ⟨SA, sc, BA, bc, OA, oc, AA, ac⟩ := L
  unfold fnV at HFD ⊢
  unfold FObj at HFD HAL HV
  simp only at HFD HAL HV ⊢
  go_enter Tryz.func8, Tryz.ntmps8
  go_wp2_with (first
    | (go_at_call 22; refine HFD.out.mono ?_; rintro e w1 ⟨lb, gb, G, rc, I, s, rfl, hlv, hfo, hli, hgb, hb1⟩; have hv1 : FBox w1 w.heap.size f ⟨SA, sc, BA, bc, OA, oc, AA, ac⟩ := (hb1.block _ (Array.getElem?_eq_some_iff.1 HV.out).1).trans HV.out; obtain ⟨c0, c1, c2, c3, c4⟩ := hv1.cells; rw [HREG.out] at c2; have HLV := Lib.hid hlv; have HFO := Lib.hid hfo; have HLI := Lib.hid hli; have HB1 := Lib.hid (HAL.out.trans (hb1.mono HAL.out.size)); have hgb2 := hgb; rw [World.size_alloc] at hgb2; have hlw := hlv.lt; have hgl := hlv.gr.lt; clear hlv hfo hli hb1 hv1 hgb)
    | (with_reducible change wpList _ _ _ ({ dst := _, op := .build 69 _, type := _, pos := _, after := _, guard := _ } :: _) _ _; refine wpList_set69 rfl _ rfl rfl ?_))
  have hal : Below w1.heap.size w1 ((w1.alloc (.cells (setCells 0 (r : Int)).toArray 69)).alloc (.cells #[.pointer (some ⟨w1.heap.size, 0, none⟩)] 64)) := ((Below.refl _ _).alloc (Nat.le_refl _) _).alloc (by simp) _
  have hI0 : InvA (w1.heap.size + 1) w1.heap.size r [] (fun g => g = w1.heap.size + 1 ∨ g = w1.heap.size) ((w1.alloc (.cells (setCells 0 (r : Int)).toArray 69)).alloc (.cells #[.pointer (some ⟨w1.heap.size, 0, none⟩)] 64)) := by
    refine ⟨fun g => Iff.rfl, by omega, ?_, ?_, Nat.two_pow_pos r⟩
    · have h9 := heap_alloc_new (w1.alloc (.cells (setCells 0 (r : Int)).toArray 69)) (.cells #[.pointer (some ⟨w1.heap.size, 0, none⟩)] 64)
      rw [World.size_alloc] at h9
      exact h9
    · exact (heap_alloc_lt _ _ (by simp)).trans (heap_alloc_new w1 _)
  have HEA := Lib.hid (each_23 24 (enters_of Tryz.func24 (by kernel_rfl) rfl) ⟨w1.heap.size + 1, 0, none⟩ (fun _ => True) (InvA (w1.heap.size + 1) w1.heap.size r) (fun g => g = w1.heap.size + 1 ∨ g = w1.heap.size) lb gb f ⟨SA, sc, BA, bc, OA, oc, AA, ac⟩ G rc I r s w1 _ (clos_24 (w1.heap.size + 1) w1.heap.size r w1 hr4) HLV.out hal ((HSS.out _ HB1.out).tabs) (by omega) (HST.out.good) HST.out.fits hI0 (fun g hg => by omega) (fun _ _ _ _ => trivial))
  have HAL2 := Lib.hid (HB1.out.trans (hal.mono HB1.out.size))
  have hw12 := HB1.out.size
  have hsz2 : ((w1.alloc (.cells (setCells 0 (r : Int)).toArray 69)).alloc (.cells #[.pointer (some ⟨w1.heap.size, 0, none⟩)] 64)).heap.size = w1.heap.size + 2 := by simp
  have HSZ2 := Lib.hid hsz2
  clear hal hI0 hsz2 c0 c1 c2 c3 c4
  refine HEA.out.mono ?_
  rintro e w5 ⟨rfl, X5, hi5, hb5, hs5⟩
  have c9 := Go.Joins.cell_of_block hi5.var 0
  have H5 : Hid (Below w.heap.size w w5) := Lib.hid (HAL2.out.trans (hb5.below (fun g hg => by omega) (by rw [HSZ2.out]; omega)))
  have HLS := Lib.hid (list_any w1.heap.size _ r w5 hr4 hi5.lt (HSS.out _ H5.out).tabs hi5.set)
  clear hi5 hb5 hs5
  go_wp2_with (go_at_call 26; refine HLS.out.mono ?_; rintro e w6 ⟨v, rfl, hv, hb6⟩; have HV6 := Lib.hid hv; have HB6 := Lib.hid hb6; clear hv hb6)
  go_ret2
  obtain ⟨A9, c9, e9, ho9⟩ := HV6.out
  have hsz := H5.out.size
  exact ⟨rc, s, v, rfl, ⟨A9, c9, e9, own_base ho9 hsz⟩, HFO.out, HLI.out, H5.out.trans (HB6.out.mono hsz)⟩
end Go.Proofs.YthgbmhpfblgjcaaGreatDoor.fl
