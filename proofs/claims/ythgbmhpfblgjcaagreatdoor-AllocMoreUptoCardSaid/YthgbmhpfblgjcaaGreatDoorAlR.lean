/-
  The contract of CopyFunc of the laws' base. Condition: the function stands.
-/
import Derived.Test.YthgbmhpfblgjcaaGreatDoorAlQ
set_option linter.unusedVariables false
set_option linter.unusedSimpArgs false
namespace Go.Proofs.YthgbmhpfblgjcaaGreatDoor.fl
open Go.RowKit Go.Shelf
open M T ty
set_option linter.unusedVariables false
theorem info127 : (Tryz.prog.info? 127).map (fun i => (i.zero, i.size, i.bytes)) = some (some (.agg #[.int .i64 0, .int .i64 0, .bool false]), 3, 24) := by kernel_rfl
theorem info72 : (Tryz.prog.info? 72).map (fun i => (i.zero, i.size, i.bytes)) = some (some (.agg #[.int .i64 0, .int .i64 0, .int .i64 0, .int .i64 0, .int .i64 0, .string ⟨#[]⟩, .slice none 0 0]), 7, 80) := by kernel_rfl
theorem info52 : (Tryz.prog.info? 52).map (fun i => (i.zero, i.size, i.bytes)) = some (some (.agg #[.slice none 0 0, .int .i64 0, .int .i64 0, .int .i64 0, .int .i64 0, .int .i64 0]), 6, 64) := by kernel_rfl
theorem own_tag {W : World} {lo E size : Nat} {v : Value} {k b : Nat} {xs : List Value} (h : W.ownsRow lo E size v k xs) (hb : v.ownBlock = some b) : ∃ cs, W.heap[b]? = some (Obj.cells cs E (0, 0)) := by
  rcases h.2 with ⟨rfl, -⟩ | ⟨g, cap, cur, rfl, -, hg, -⟩
  · simp [Value.ownBlock] at hb
  · obtain rfl : g = b := by simpa [Value.ownBlock] using hb
    exact ⟨_, hg⟩
theorem tag_ne {W : World} {g b : Nat} {cs cs' : Array Value} {E E' : TypeId} (h : W.heap[g]? = some (Obj.cells cs E (0, 0))) (h' : W.heap[b]? = some (Obj.cells cs' E' (0, 0))) (hE : E ≠ E') : g ≠ b := fun e => by
  rw [e, h'] at h
  injection h with h
  injection h with _ h
  exact hE h.symm
/-- a block's copy under way since world w4: its box bb, its operations so far -/
structure EnvCp (w4 W : World) (bb : Nat) (x : Bl) (u : Value) (k : Nat) (ys : List Value) : Prop where
  g : w4.grownBy W (some bb)
  box : W.heap[bb]? = some (.cells #[u, .int .i64 x.ex.k, .int .i64 x.ex.a, .int .i64 x.ex.d, .int .i64 x.ex.to, .int .i64 x.ex.els] 52 (0, 0))
  lt : bb < w4.heap.size
  own : W.ownsRow w4.heap.size 72 7 u k ys
  ops : OpsX W ys (x.ops.take k)
section
variable {w4 W w7 w8 : World} {bb k : Nat} {x : Bl} {u u' : Value} {ys : List Value}
theorem EnvCp.step {o : Op} {A : Option Addr} {c : Nat} {lit : Obj} (h : EnvCp w4 W bb x u k ys) (ho : x.ops[k]? = some o) (h7 : Below W.heap.size W w7) (hr : RdT w7 A o.args) (h1 : w8.ownsRow w4.heap.size 72 7 u' (k + 1) (ys ++ opCells o A c)) (hg : (w7.alloc lit).grownBy w8 u.ownBlock) :
    w8.heap[bb]? = some (.cells #[u, .int .i64 x.ex.k, .int .i64 x.ex.a, .int .i64 x.ex.d, .int .i64 x.ex.to, .int .i64 x.ex.els] 52 (0, 0)) ∧ EnvCp w4 (w8.setCell ⟨bb, 0, none⟩ u') bb x u' (k + 1) (ys ++ opCells o A c) := by
  have hs := h.g.size
  have hlt := h.lt
  have hbW : bb < W.heap.size := by omega
  have key7 : ∀ g, g < w7.heap.size → u.ownBlock ≠ some g → w8.heap[g]? = w7.heap[g]? := fun g hg' hne => (hg.block g (by rw [World.size_alloc]; omega) (fun e => hne e.symm)).trans (heap_alloc_lt _ _ hg')
  have key : ∀ g, g < W.heap.size → u.ownBlock ≠ some g → w8.heap[g]? = W.heap[g]? := fun g hg' hne => (key7 g (Nat.lt_of_lt_of_le hg' h7.size) hne).trans (h7.block g hg')
  have hub : u.ownBlock ≠ some bb := fun e => by have := (h.own.lt bb e).1; omega
  have hbx := (key bb hbW hub).trans h.box
  have hb7 := (h7.block bb hbW).trans h.box
  have hu' : ∀ b, u'.ownBlock = some b → b ≠ bb := fun b e e' => by have := (h1.lt b e).1; omega
  have k3 : ∀ (g : Nat) (cs : Array Value), W.heap[g]? = some (Obj.cells cs 3 (0, 0)) → (w8.setCell ⟨bb, 0, none⟩ u').heap[g]? = W.heap[g]? := fun g cs hgc => by
    have hne : u.ownBlock ≠ some g := fun e => by
      obtain ⟨cs', ht⟩ := own_tag h.own e
      exact tag_ne hgc ht (by decide) rfl
    exact (heap_other _ (tag_ne hgc h.box (by decide))).trans (key g (Array.getElem?_eq_some_iff.1 hgc).1 hne)
  have k37 : ∀ (g : Nat) (cs : Array Value), w7.heap[g]? = some (Obj.cells cs 3 (0, 0)) → (w8.setCell ⟨bb, 0, none⟩ u').heap[g]? = w7.heap[g]? := fun g cs hgc => by
    have hne : u.ownBlock ≠ some g := fun e => by
      obtain ⟨cs', ht⟩ := own_tag h.own e
      exact tag_ne hgc ((h7.block g (h.own.lt g e).2).trans ht) (by decide) rfl
    exact (heap_other _ (tag_ne hgc hb7 (by decide))).trans (key7 g (Array.getElem?_eq_some_iff.1 hgc).1 hne)
  refine ⟨hbx, ⟨⟨(hg.os.trans h7.os).trans h.g.os, (hg.tape.trans h7.tape).trans h.g.tape, (hg.output.trans h7.output).trans h.g.output, ?_, fun g hgl hn => ?_⟩, heap_set (o := 0) hbx u', hlt, own_same h1 fun g e => heap_other _ (hu' g e), ?_⟩⟩
  · rw [World.size_setCell]
    have h2 := hg.size
    have h3 := h7.size
    rw [World.size_alloc] at h2
    omega
  · have hgb : g ≠ bb := fun e => hn (by rw [e])
    exact (heap_other _ hgb).trans ((key g (by omega) (fun e => by have := (h.own.lt g e).1; omega)).trans (h.g.block g hgl hn))
  · rw [List.take_add_one, ho]
    exact (h.ops.keep k3).snoc (hr.keep k37)
end
/-- a function's copy stands, in blocks of the types of its parts -/
structure CopAt (W : World) (f : Fn) (S BA : Option Addr) (xs : List Value) : Prop where
  s : RdG W 127 S (f.slots.flatMap slotCells)
  b : RdG W 52 BA xs
  x : BlsX W xs f.bl
theorem CopAt.keep {W W' : World} {f : Fn} {S BA : Option Addr} {xs : List Value} (h : CopAt W f S BA xs) (hk : ∀ (g : Nat) (cs : Array Value) (E : TypeId), (E = 3 ∨ E = 72) ∨ E = 52 ∨ E = 127 → W.heap[g]? = some (Obj.cells cs E (0, 0)) → W'.heap[g]? = W.heap[g]?) : CopAt W' f S BA xs :=
  ⟨h.s.keep fun g cs hg => hk g cs 127 (.inr (.inr rfl)) hg, h.b.keep fun g cs hg => hk g cs 52 (.inr (.inl rfl)) hg, h.x.keep fun g cs E hE hg => hk g cs E (.inl hE) hg⟩
theorem CopAt.fn {W : World} {f : Fn} {S BA : Option Addr} {xs : List Value} (h : CopAt W f S BA xs) (sc bc : Nat) : ∃ OA oc AA ac, FnAt W W.heap.size f ⟨S, sc, BA, bc, OA, oc, AA, ac⟩ := fn_of sc bc h.s h.b h.x
def CopyP (f : Fn) (w : World) (e : Ending) (w' : World) : Prop := ∃ S sc BA bc xs, e = .returned (.agg #[.string f.name, .int .i64 f.params, .int .i64 f.regs, .slice S f.slots.length sc, .slice BA f.bl.length bc]) ∧ CopAt w' f S BA xs ∧ Below w.heap.size w w'
set_option maxRecDepth 20000 in
set_option maxHeartbeats 16000000 in
theorem CopyFunc_14 (f : Fn) (L : FLay) (r : Nat) (w : World) (h : Stands w f L r) :
    Calls Tryz.prog 14 #[fnV f L] w (CopyP f w) := by
  have hg := h.good
  have hsl : f.slots.length ≤ 256 := hg.sl
  have hbl4 : f.bl.length ≤ 4096 := hg.b4
  have hbl5 : (f.bl.length : Int) ≤ 4096 := by omega
  have HFIT := Lib.hid h.fits.op
  have HAL : Hid (Below w.heap.size w ((w.alloc (FObj f L)).alloc (.cells #[.string ⟨#[]⟩, .int .i64 0, .int .i64 0, .slice none 0 0, .slice none 0 0] 25))) := Lib.hid (((Below.refl _ _).alloc (Nat.le_refl _) _).alloc (by simp) _)
  have HV : Hid (FBox ((w.alloc (FObj f L)).alloc (.cells #[.string ⟨#[]⟩, .int .i64 0, .int .i64 0, .slice none 0 0, .slice none 0 0] 25)) w.heap.size f L) := Lib.hid ((heap_alloc_lt _ _ (by simp)).trans (heap_alloc_new w _))
  have HR9 : Hid (((w.alloc (FObj f L)).alloc (.cells #[.string ⟨#[]⟩, .int .i64 0, .int .i64 0, .slice none 0 0, .slice none 0 0] 25)).heap[w.heap.size + 1]? = some (.cells #[.string ⟨#[]⟩, .int .i64 0, .int .i64 0, .slice none 0 0, .slice none 0 0] 25 (0, 0))) := Lib.hid (by have := heap_alloc_new (w.alloc (FObj f L)) (.cells #[.string ⟨#[]⟩, .int .i64 0, .int .i64 0, .slice none 0 0, .slice none 0 0] 25); rw [World.size_alloc] at this; exact this)
  have HSR := Lib.hid (slots_rd h.fn.slots)
  have HBL := Lib.hid (fun W (hW : Below w.heap.size w W) => (h.fn.after hW).bls)
  clear h hg
  obtain ⟨i7, hi7, hz70, hz71, hz72⟩ := info_parts info72
  obtain ⟨i5, hi5, hz50, hz51, hz52⟩ := info_parts info52
  obtain ⟨i1, hi1, hz10, hz11, hz12⟩ := info_parts info127
  obtain ⟨SA, sc, BA, bc, OA, oc, AA, ac⟩ := L
  unfold fnV
  unfold FObj at HAL HV HR9
  simp only at HAL HV HR9 HSR HBL ⊢
  go_enter Tryz.func14, Tryz.ntmps14
  go_upto_region 1 with fail
  generalize (w.alloc (.cells #[.string f.name, .int .i64 f.params, .int .i64 f.regs, .slice SA f.slots.length sc, .slice BA f.bl.length bc] 25)).alloc (.cells #[.string ⟨#[]⟩, .int .i64 0, .int .i64 0, .slice none 0 0, .slice none 0 0] 25) = W0 at *
  have hfl : w.heap.size < W0.heap.size := HV.out.lt
  have hrl : w.heap.size + 1 < W0.heap.size := (Array.getElem?_eq_some_iff.1 HR9.out).1
  have HE : Hid (World.ownsRow (W0.alloc (.cells #[] 127)) W0.heap.size 127 3 (.slice (some ⟨W0.heap.size, 0, none⟩) 0 0) 0 []) := Lib.hid own_empty
  have HSR2 : Hid (Rd (W0.alloc (.cells #[] 127)) w.heap.size SA (f.slots.flatMap slotCells)) := Lib.hid (HSR.out.below (HAL.out.alloc HAL.out.size _))
  have hml : 0 + f.slots.length ≤ maxLen := by simp only [maxLen]; omega
  have hle : (0 + f.slots.length) * 24 ≤ 140737488355328 := by omega
  obtain ⟨c0, c1, c2, c3, c4⟩ := HV.out.cells
  go_upto_region 2 with (at_builtin; go_loud (refine wpList_append_rd (w := W0.alloc (.cells #[] 127)) rfl (.tmp 8) (.tmp 10) 22 rfl W0.heap.size 127 i1 (.agg #[.int .i64 0, .int .i64 0, .bool false]) 3 24 Tryz.underlying22 hi1 hz10 hz11 hz12 rfl (by omega) (.slice (some ⟨W0.heap.size, 0, none⟩) 0 0) 0 [] rfl HE.out _ SA f.slots.length sc (f.slots.flatMap slotCells) rfl (flat_len slotCells 3 (fun _ => rfl) _) HSR2.out slot_one hml hle (by simp) ?_); intro v6 w6 ho6 hg6 _; rw [Nat.zero_add, List.nil_append] at ho6; obtain ⟨A6, c6, rfl, -, -⟩ := own_form ho6; have hk6 : ∀ g, g < W0.heap.size → w6.heap[g]? = W0.heap[g]? := fun g hgl => (hg6.block g (by simp; omega) (fun e => by have := (HE.out.lt g e.symm).1; omega)).trans (heap_alloc_lt _ _ hgl); have e6 := (hk6 _ hfl).trans HV.out; have e7 := (hk6 _ hrl).trans HR9.out; have HB6 := Lib.hid ((HAL.out.alloc HAL.out.size (.cells #[] 127)).grown hg6 (by have := HAL.out.size; simp; omega) (fun g hgb => by have := (HE.out.lt g hgb).1; have := HAL.out.size; omega)); have HO6 := Lib.hid (RdG.of_own ho6); have y3 := Go.Joins.cell_of_block e6 3; have yf := Go.Joins.unfrozen_of_block e6 3; have HX6 := Lib.hid e6; have HX7 := Lib.hid e7; clear ho6 hg6 hk6 e6 e7)
  have HF2 : Hid (FBox (w6.setCell ⟨w.heap.size, 3, none⟩ (.slice A6 f.slots.length c6)) w.heap.size f ⟨A6, c6, BA, bc, OA, oc, AA, ac⟩) := Lib.hid (heap_set (o := 3) HX6.out _)
  have HR2 : Hid ((w6.setCell ⟨w.heap.size, 3, none⟩ (.slice A6 f.slots.length c6)).heap[w.heap.size + 1]? = some (.cells #[.string ⟨#[]⟩, .int .i64 0, .int .i64 0, .slice none 0 0, .slice none 0 0] 25 (0, 0))) := Lib.hid ((heap_other _ (by omega)).trans HX7.out)
  have HS2 : Hid (RdG (w6.setCell ⟨w.heap.size, 3, none⟩ (.slice A6 f.slots.length c6)) 127 A6 (f.slots.flatMap slotCells)) := Lib.hid (HO6.out.keep fun g cs hgc => heap_other _ (tag_ne hgc HX6.out (by decide)))
  have HB2 : Hid (Below w.heap.size w (w6.setCell ⟨w.heap.size, 3, none⟩ (.slice A6 f.slots.length c6))) := Lib.hid (HB6.out.setCell (p := ⟨w.heap.size, 3, none⟩) (Nat.le_refl _) _)
  clear c0 c1 c2 c3 c4 y3 yf HX6 HX7 HO6 HB6 HE HSR2 HSR HV HR9 HAL hml hle hi1 hz10 hz11 hz12
  generalize w6.setCell ⟨w.heap.size, 3, none⟩ (.slice A6 f.slots.length c6) = W2 at *
  clear hfl hrl
  have hfl : w.heap.size < W2.heap.size := HF2.out.lt
  have hrl : w.heap.size + 1 < W2.heap.size := (Array.getElem?_eq_some_iff.1 HR2.out).1
  have HFX : Hid (∀ W, Below W2.heap.size W2 W → FBox W w.heap.size f ⟨A6, c6, BA, bc, OA, oc, AA, ac⟩ ∧ W.heap[w.heap.size + 1]? = some (.cells #[.string ⟨#[]⟩, .int .i64 0, .int .i64 0, .slice none 0 0, .slice none 0 0] 25 (0, 0)) ∧ RdG W 127 A6 (f.slots.flatMap slotCells) ∧ BlsAt W W.heap.size BA f.bl OA oc AA ac) := Lib.hid fun W hW => ⟨HF2.out.after hW, (hW.block _ hrl).trans HR2.out, HS2.out.keep fun g cs hgc => hW.block g (Array.getElem?_eq_some_iff.1 hgc).1, HBL.out W (HB2.out.trans (hW.mono HB2.out.size))⟩
  have HE0 : Hid (World.ownsRow (W2.alloc (.cells #[] 52)) W2.heap.size 52 6 (.slice (some ⟨W2.heap.size, 0, none⟩) 0 0) 0 []) := Lib.hid own_empty
  have HA0 : Hid (Below W2.heap.size W2 (W2.alloc (.cells #[] 52))) := Lib.hid ((Below.refl _ _).alloc (Nat.le_refl _) _)
  go_wp2_with fail
  go_loopg [4, 3] f.bl.length (fun N a t wr => ∃ i xs, i ≤ f.bl.length ∧ N = f.bl.length - i ∧ a = .int .i64 i ∧ Below W2.heap.size W2 wr ∧ wr.ownsRow W2.heap.size 52 6 t i xs ∧ BlsX wr xs (f.bl.take i))
  case atStart => exact ⟨0, [], by omega, rfl, rfl, HA0.out, HE0.out, BlsX.nil _⟩
  case round =>
    obtain ⟨i, xs, hil, rfl, rfl, hbw, hown, hbx⟩ := hrel
    clear HE0 HA0
    obtain ⟨A9, c9, rfl, -, -⟩ := own_form hown
    obtain ⟨hfb, hrb, hsb, hbb⟩ := HFX.out wr hbw
    obtain ⟨d0, d1, d2, d3, d4⟩ := hfb.cells
    by_cases hlt : i < f.bl.length
    · have hltI : (i : Int) < (f.bl.length : Int) := by omega
      obtain ⟨adB, pB, x, rfl, hx, hpB, hpBl, b0, b1, b2, b3, b4, b5⟩ := bl_at hbb hlt
      have HX := Lib.hid hx
      have HFITX := Lib.hid (HFIT.out x (List.mem_of_getElem? hx))
      have hal := (Below.refl wr.heap.size wr).alloc (Nat.le_refl _) (.cells #[.slice none 0 0, .int .i64 x.ex.k, .int .i64 x.ex.a, .int .i64 x.ex.d, .int .i64 x.ex.to, .int .i64 x.ex.els] 52)
      have HB24 := Lib.hid (hbw.trans (hal.mono hbw.size))
      have HOW4 := Lib.hid (own_below_size hown hal)
      have HOL4 : Hid (∀ b, (Value.slice A9 i c9).ownBlock = some b → W2.heap.size ≤ b ∧ b < wr.heap.size) := Lib.hid fun b e => hown.lt b e
      have HBX4 := Lib.hid (hbx.keep fun g cs E _ hgc => hal.block g (Array.getElem?_eq_some_iff.1 hgc).1)
      have HBB4 := Lib.hid (heap_alloc_new wr (.cells #[.slice none 0 0, .int .i64 x.ex.k, .int .i64 x.ex.a, .int .i64 x.ex.d, .int .i64 x.ex.to, .int .i64 x.ex.els] 52))
      have h2w : W2.heap.size ≤ wr.heap.size := hbw.size
      clear hal hbw hown hbx hfb hrb hsb hbb hx
      go_upto_region 7 with fail
      clear b0 b1 b2 b3 b4 b5 d0 d1 d2 d3 d4 hpBl hpB
      generalize wr.alloc (.cells #[.slice none 0 0, .int .i64 x.ex.k, .int .i64 x.ex.a, .int .i64 x.ex.d, .int .i64 x.ex.to, .int .i64 x.ex.els] 52) = W4 at *
      generalize wr.heap.size = bb at *
      have hbb4 : bb < W4.heap.size := (Array.getElem?_eq_some_iff.1 HBB4.out).1
      have HGB : Hid (∀ W, W4.grownBy W (some bb) → Below W2.heap.size W2 W) := Lib.hid fun W hW => HB24.out.grown hW HB24.out.size (fun g e => by cases e; exact h2w)
      have HE0 : Hid (EnvCp W4 W4 bb x (.slice none 0 0) 0 []) := Lib.hid ⟨World.grownBy.refl W4 _, HBB4.out, hbb4, World.ownsRow_nil _ _ _ _, OpsX.nil _⟩
      go_wp2_with fail
      go_loopg [6] x.ops.length (fun N t wr => ∃ k u ys, k ≤ x.ops.length ∧ N = x.ops.length - k ∧ t = .int .i64 k ∧ EnvCp W4 wr bb x u k ys)
      case atStart => exact ⟨0, _, [], by omega, rfl, rfl, HE0.out⟩
      case round =>
        obtain ⟨k, u, ys, hk, rfl, rfl, he⟩ := hrel
        clear HE0
        obtain ⟨A7, c7, rfl, -, -⟩ := own_form he.own
        have hgw := HGB.out wr he.g
        obtain ⟨hfb, -, -, hbb⟩ := HFX.out wr hgw
        obtain ⟨d0, d1, d2, d3, d4⟩ := hfb.cells
        obtain ⟨ad', pB, x', eB, hx', hpB, hpBl, b0, b1, b2, b3, b4, b5⟩ := bl_at hbb hlt
        obtain rfl := Option.some.inj eB
        obtain rfl := Option.some.inj (HX.out.symm.trans hx')
        have hof := HFITX.out.1
        have hkI : (x.ops.length : Int) ≤ 1048576 := by omega
        have hw4 := he.g.size
        by_cases hlk : k < x.ops.length
        · have hlkI : (k : Int) < (x.ops.length : Int) := by omega
          have hops := hbb.ops i x HX.out
          obtain ⟨adO, pO, o, eO, ho, hpO, hpOl, o0, o1, o2, o3, o4, o5, o6⟩ := op_at hops hlk
          have hargs := hops.args k o ho
          rw [eO] at b0
          have hofa := (HFITX.out.2 o (List.mem_of_getElem? ho)).2
          have haI : (o.args.length : Int) ≤ 1048576 := by omega
          generalize AA i k = Ao at *
          generalize ac i k = ao at *
          have HE := Lib.hid he
          have HO := Lib.hid ho
          have hal := (Below.refl wr.heap.size wr).alloc (Nat.le_refl _) (.cells #[.int .i64 o.k, .int .i64 o.d, .int .i64 o.a, .int .i64 o.b, .int .i64 o.imm, .string o.text, .slice Ao o.args.length ao] 72)
          have HB5 := Lib.hid hal
          have HX5 := Lib.hid (heap_alloc_new wr (.cells #[.int .i64 o.k, .int .i64 o.d, .int .i64 o.a, .int .i64 o.b, .int .i64 o.imm, .string o.text, .slice Ao o.args.length ao] 72))
          have HAR := Lib.hid ((hargs.below hal).more hal.size)
          clear he hgw hfb hbb hops eO ho hargs hal eB hx'
          go_upto_region 11 with fail
          clear d0 d1 d2 d3 d4 b0 b1 b2 b3 b4 b5 o0 o1 o2 o3 o4 o5 o6 hpB hpBl hpO hpOl
          generalize wr.alloc (.cells #[.int .i64 o.k, .int .i64 o.d, .int .i64 o.a, .int .i64 o.b, .int .i64 o.imm, .string o.text, .slice Ao o.args.length ao] 72) = W5 at *
          have hob : wr.heap.size < W5.heap.size := (Array.getElem?_eq_some_iff.1 HX5.out).1
          have hbbw : bb < wr.heap.size := by omega
          have hml : k + 1 ≤ maxLen := by simp only [maxLen]; omega
          have hle : (k + 1) * 80 ≤ 140737488355328 := by omega
          rcases Nat.eq_zero_or_pos o.args.length with ha0 | ha0
          · have y6 := Go.Joins.cell_of_block HX5.out 6
            have y0 := Go.Joins.cell_of_block HX5.out 0
            have y1 := Go.Joins.cell_of_block HX5.out 1
            have y2 := Go.Joins.cell_of_block HX5.out 2
            have y3 := Go.Joins.cell_of_block HX5.out 3
            have y4 := Go.Joins.cell_of_block HX5.out 4
            have y5 := Go.Joins.cell_of_block HX5.out 5
            have z0 := Go.Joins.cell_of_block ((HB5.out.block bb hbbw).trans HE.out.box) 0
            have HRT : Hid (RdT W5 Ao o.args) := Lib.hid fun hn => absurd (by rw [List.eq_nil_of_length_eq_zero ha0]; rfl) hn
            have HOWN := Lib.hid ((own_below_size HE.out.own HB5.out).alloc (.cells #[.int .i64 o.k, .int .i64 o.d, .int .i64 o.a, .int .i64 o.b, .int .i64 o.imm, .string o.text, .slice Ao o.args.length ao] 72))
            have HRD : Hid (Rd (W5.alloc (.cells #[.int .i64 o.k, .int .i64 o.d, .int .i64 o.a, .int .i64 o.b, .int .i64 o.imm, .string o.text, .slice Ao o.args.length ao] 72)) (W5.heap.size + 1) (some ⟨W5.heap.size, 0, none⟩) (opCells o Ao ao)) := Lib.hid fun _ => ⟨_, rfl, by simp, fun j u hu => by
              rw [add_none, Go.Joins.cell_of_block (heap_alloc_new W5 _) j]
              simpa [opCells] using hu⟩
            have hbase : W4.heap.size ≤ (W5.alloc (.cells #[.int .i64 o.k, .int .i64 o.d, .int .i64 o.a, .int .i64 o.b, .int .i64 o.imm, .string o.text, .slice Ao o.args.length ao] 72)).heap.size := by rw [World.size_alloc]; omega
            have haz : (o.args.length : Int) ≤ 0 := by omega
            clear ha0
            go_wp2_with (at_builtin; go_loud ((refine wpList_append_rd (w := W5.alloc (.cells #[.int .i64 o.k, .int .i64 o.d, .int .i64 o.a, .int .i64 o.b, .int .i64 o.imm, .string o.text, .slice Ao o.args.length ao] 72)) rfl (.tmp 57) (.tmp 59) 48 rfl W4.heap.size 72 i7 (.agg #[.int .i64 0, .int .i64 0, .int .i64 0, .int .i64 0, .int .i64 0, .string ⟨#[]⟩, .slice none 0 0]) 7 80 Tryz.underlying48 hi7 hz70 hz71 hz72 rfl (by omega) (.slice A7 k c7) k ys rfl HOWN.out _ (some ⟨W5.heap.size, 0, none⟩) 1 1 (opCells o Ao ao) rfl rfl HRD.out (op_one o Ao ao) hml hle hbase ?_); intro v6 w6 ho6 hg6 _; obtain ⟨A6', c6', rfl, -, -⟩ := own_form ho6; obtain ⟨hb6, he6⟩ := HE.out.step HO.out HB5.out HRT.out ho6 hg6; have q0 := Go.Joins.cell_of_block hb6 0; have qf := Go.Joins.unfrozen_of_block hb6 0; have HE6 := Lib.hid he6; clear ho6 hg6 hb6 he6))
            go_roundg (x.ops.length - (k + 1))
            case measure => omega
            case rel => exact ⟨k + 1, _, _, by omega, rfl, by go_num, HE6.out⟩
          · have y6 := Go.Joins.cell_of_block HX5.out 6
            have HIN := Lib.hid (Ints_15 Ao ao o.args W5 HAR.out hofa)
            have haz : (0 : Int) < (o.args.length : Int) := by omega
            go_upto_region 13 with (go_at_call 15; go_loud ((refine HIN.out.mono ?_; rintro e w6 ⟨An, cn, rfl, ho6, hb6⟩; have hx6 := (hb6.block _ hob).trans HX5.out; clear y6; have y6 := Go.Joins.cell_of_block hx6 6; have yf := Go.Joins.unfrozen_of_block hx6 6; have HX6 := Lib.hid hx6; have HB6 := Lib.hid (HB5.out.trans (hb6.mono HB5.out.size)); have HO6 := Lib.hid (RdT.of_own ho6); clear hx6 ho6 hb6)))
            clear y6 yf
            have HX7 : Hid ((w6.setCell ⟨wr.heap.size, 6, none⟩ (.slice An o.args.length cn)).heap[wr.heap.size]? = some (.cells #[.int .i64 o.k, .int .i64 o.d, .int .i64 o.a, .int .i64 o.b, .int .i64 o.imm, .string o.text, .slice An o.args.length cn] 72 (0, 0))) := Lib.hid (heap_set (o := 6) HX6.out _)
            have HB7 : Hid (Below wr.heap.size wr (w6.setCell ⟨wr.heap.size, 6, none⟩ (.slice An o.args.length cn))) := Lib.hid (HB6.out.setCell (p := ⟨wr.heap.size, 6, none⟩) (Nat.le_refl _) _)
            have HRT : Hid (RdT (w6.setCell ⟨wr.heap.size, 6, none⟩ (.slice An o.args.length cn)) An o.args) := Lib.hid (HO6.out.keep fun g cs hgc => heap_other _ (tag_ne hgc HX6.out (by decide)))
            clear HX6 HB6 HO6 HIN HX5 HAR HB5 hob
            generalize w6.setCell ⟨wr.heap.size, 6, none⟩ (.slice An o.args.length cn) = W7 at *
            have hob : wr.heap.size < W7.heap.size := (Array.getElem?_eq_some_iff.1 HX7.out).1
            have y6 := Go.Joins.cell_of_block HX7.out 6
            have y0 := Go.Joins.cell_of_block HX7.out 0
            have y1 := Go.Joins.cell_of_block HX7.out 1
            have y2 := Go.Joins.cell_of_block HX7.out 2
            have y3 := Go.Joins.cell_of_block HX7.out 3
            have y4 := Go.Joins.cell_of_block HX7.out 4
            have y5 := Go.Joins.cell_of_block HX7.out 5
            have z0 := Go.Joins.cell_of_block ((HB7.out.block bb hbbw).trans HE.out.box) 0
            have HOWN := Lib.hid ((own_below_size HE.out.own HB7.out).alloc (.cells #[.int .i64 o.k, .int .i64 o.d, .int .i64 o.a, .int .i64 o.b, .int .i64 o.imm, .string o.text, .slice An o.args.length cn] 72))
            have HRD : Hid (Rd (W7.alloc (.cells #[.int .i64 o.k, .int .i64 o.d, .int .i64 o.a, .int .i64 o.b, .int .i64 o.imm, .string o.text, .slice An o.args.length cn] 72)) (W7.heap.size + 1) (some ⟨W7.heap.size, 0, none⟩) (opCells o An cn)) := Lib.hid fun _ => ⟨_, rfl, by simp, fun j u hu => by
              rw [add_none, Go.Joins.cell_of_block (heap_alloc_new W7 _) j]
              simpa [opCells] using hu⟩
            have hbase : W4.heap.size ≤ (W7.alloc (.cells #[.int .i64 o.k, .int .i64 o.d, .int .i64 o.a, .int .i64 o.b, .int .i64 o.imm, .string o.text, .slice An o.args.length cn] 72)).heap.size := by rw [World.size_alloc]; omega
            go_wp2_with (at_builtin; go_loud ((refine wpList_append_rd (w := W7.alloc (.cells #[.int .i64 o.k, .int .i64 o.d, .int .i64 o.a, .int .i64 o.b, .int .i64 o.imm, .string o.text, .slice An o.args.length cn] 72)) rfl (.tmp 57) (.tmp 59) 48 rfl W4.heap.size 72 i7 (.agg #[.int .i64 0, .int .i64 0, .int .i64 0, .int .i64 0, .int .i64 0, .string ⟨#[]⟩, .slice none 0 0]) 7 80 Tryz.underlying48 hi7 hz70 hz71 hz72 rfl (by omega) (.slice A7 k c7) k ys rfl HOWN.out _ (some ⟨W7.heap.size, 0, none⟩) 1 1 (opCells o An cn) rfl rfl HRD.out (op_one o An cn) hml hle hbase ?_); intro v6 w6' ho6 hg6 _; obtain ⟨A6', c6', rfl, -, -⟩ := own_form ho6; obtain ⟨hb6, he6⟩ := HE.out.step HO.out HB7.out HRT.out ho6 hg6; have q0 := Go.Joins.cell_of_block hb6 0; have qf := Go.Joins.unfrozen_of_block hb6 0; have HE6 := Lib.hid he6; clear ho6 hg6 hb6 he6))
            go_roundg (x.ops.length - (k + 1))
            case measure => omega
            case rel => exact ⟨k + 1, _, _, by omega, rfl, by go_num, HE6.out⟩
        · obtain rfl : k = x.ops.length := by omega
          have hops := he.ops
          rw [List.take_length] at hops
          have y0 := Go.Joins.cell_of_block he.box 0
          have y1 := Go.Joins.cell_of_block he.box 1
          have y2 := Go.Joins.cell_of_block he.box 2
          have y3 := Go.Joins.cell_of_block he.box 3
          have y4 := Go.Joins.cell_of_block he.box 4
          have y5 := Go.Joins.cell_of_block he.box 5
          have how : wr.ownsRow W2.heap.size 52 6 (.slice A9 i c9) i xs := own_keep_any HOW4.out he.g fun b e e2 => by have := (HOL4.out b e).2; have e3 := Option.some.inj e2; omega
          have HOWN := Lib.hid (how.alloc (.cells #[.slice A7 x.ops.length c7, .int .i64 x.ex.k, .int .i64 x.ex.a, .int .i64 x.ex.d, .int .i64 x.ex.to, .int .i64 x.ex.els] 52))
          have HOW := Lib.hid how
          have HRD : Hid (Rd (wr.alloc (.cells #[.slice A7 x.ops.length c7, .int .i64 x.ex.k, .int .i64 x.ex.a, .int .i64 x.ex.d, .int .i64 x.ex.to, .int .i64 x.ex.els] 52)) (wr.heap.size + 1) (some ⟨wr.heap.size, 0, none⟩) (blCells x A7 c7)) := Lib.hid fun _ => ⟨_, rfl, by simp, fun j u hu => by
            rw [add_none, Go.Joins.cell_of_block (heap_alloc_new wr _) j]
            simpa [blCells] using hu⟩
          have hml : i + 1 ≤ maxLen := by simp only [maxLen]; omega
          have hle : (i + 1) * 64 ≤ 140737488355328 := by omega
          have h2w2 : W2.heap.size ≤ wr.heap.size := hgw.size
          have hbase : W2.heap.size ≤ (wr.alloc (.cells #[.slice A7 x.ops.length c7, .int .i64 x.ex.k, .int .i64 x.ex.a, .int .i64 x.ex.d, .int .i64 x.ex.to, .int .i64 x.ex.els] 52)).heap.size := by rw [World.size_alloc]; omega
          have HE := Lib.hid he
          have HOPS := Lib.hid hops
          have HGW := Lib.hid hgw
          clear he hgw hfb hbb eB hx' hops how b1 b2 b3 b4 b5
          go_wp2_with (at_builtin; go_loud ((refine wpList_append_rd (w := wr.alloc (.cells #[.slice A7 x.ops.length c7, .int .i64 x.ex.k, .int .i64 x.ex.a, .int .i64 x.ex.d, .int .i64 x.ex.to, .int .i64 x.ex.els] 52)) rfl (.tmp 62) (.tmp 64) 23 rfl W2.heap.size 52 i5 (.agg #[.slice none 0 0, .int .i64 0, .int .i64 0, .int .i64 0, .int .i64 0, .int .i64 0]) 6 64 Tryz.underlying23 hi5 hz50 hz51 hz52 rfl (by omega) (.slice A9 i c9) i xs rfl HOWN.out _ (some ⟨wr.heap.size, 0, none⟩) 1 1 (blCells x A7 c7) rfl rfl HRD.out (bl_one x A7 c7) hml hle hbase ?_); intro v6 w6 ho6 hg6 _; have HO6 := Lib.hid ho6; have HG6 := Lib.hid hg6; clear ho6 hg6))
          go_roundg (f.bl.length - (i + 1))
          case measure => omega
          case rel =>
            have key : ∀ (g : Nat) (cs : Array Value) (E : TypeId), E = 3 ∨ E = 72 → wr.heap[g]? = some (Obj.cells cs E (0, 0)) → w6.heap[g]? = wr.heap[g]? := fun g cs E hE hgc => by
              have hgl := (Array.getElem?_eq_some_iff.1 hgc).1
              have hne : ∀ b, (Value.slice A9 i c9).ownBlock = some b → g ≠ b := fun b e => by
                obtain ⟨cs', ht⟩ := own_tag HOW.out e
                exact tag_ne hgc ht (by rcases hE with rfl | rfl <;> decide)
              exact (HG6.out.block g (by rw [World.size_alloc]; omega) (fun e => hne g e.symm rfl)).trans (heap_alloc_lt _ _ hgl)
            have key4 : ∀ (g : Nat) (cs : Array Value) (E : TypeId), E = 3 ∨ E = 72 → W4.heap[g]? = some (Obj.cells cs E (0, 0)) → w6.heap[g]? = W4.heap[g]? := fun g cs E hE hgc => by
              have hgl := (Array.getElem?_eq_some_iff.1 hgc).1
              have h1 := HE.out.g.block g hgl (fun e => tag_ne hgc HBB4.out (by rcases hE with rfl | rfl <;> decide) (Option.some.inj e))
              exact (key g cs E hE (h1.trans hgc)).trans h1
            have hb6 : Below W2.heap.size W2 w6 := (HGW.out.alloc HGW.out.size _).grown HG6.out hbase (fun g hgb => (HOL4.out g hgb).1)
            refine ⟨i + 1, xs ++ blCells x A7 c7, by omega, rfl, by go_num, hb6, HO6.out, ?_⟩
            rw [List.take_add_one, HX.out]
            exact (HBX4.out.keep key4).snoc ((RdG.of_own HE.out.own).keep fun g cs hgc => key g cs 72 (.inr rfl) hgc) (HOPS.out.keep fun g cs hgc => key g cs 3 (.inl rfl) hgc)
    · obtain rfl : i = f.bl.length := by omega
      rw [List.take_length] at hbx
      have z4 := Go.Joins.unfrozen_of_block hfb 4
      have HF4 : Hid (FBox (wr.setCell ⟨w.heap.size, 4, none⟩ (.slice A9 f.bl.length c9)) w.heap.size f ⟨A6, c6, A9, c9, OA, oc, AA, ac⟩) := Lib.hid (heap_set (o := 4) hfb _)
      have HR4 : Hid ((wr.setCell ⟨w.heap.size, 4, none⟩ (.slice A9 f.bl.length c9)).heap[w.heap.size + 1]? = some (.cells #[.string ⟨#[]⟩, .int .i64 0, .int .i64 0, .slice none 0 0, .slice none 0 0] 25 (0, 0))) := Lib.hid ((heap_other _ (by omega)).trans hrb)
      have HS4 : Hid (RdG (wr.setCell ⟨w.heap.size, 4, none⟩ (.slice A9 f.bl.length c9)) 127 A6 (f.slots.flatMap slotCells)) := Lib.hid (hsb.keep fun g cs hgc => heap_other _ (tag_ne hgc hfb (by decide)))
      have HL4 : Hid (RdG (wr.setCell ⟨w.heap.size, 4, none⟩ (.slice A9 f.bl.length c9)) 52 A9 xs) := Lib.hid ((RdG.of_own hown).keep fun g cs hgc => heap_other _ (tag_ne hgc hfb (by decide)))
      have HB4 : Hid (BlsX (wr.setCell ⟨w.heap.size, 4, none⟩ (.slice A9 f.bl.length c9)) xs f.bl) := Lib.hid (hbx.keep fun g cs E hE hgc => heap_other _ (tag_ne hgc hfb (by rcases hE with rfl | rfl <;> decide)))
      have HBW : Hid (Below w.heap.size w (wr.setCell ⟨w.heap.size, 4, none⟩ (.slice A9 f.bl.length c9))) := Lib.hid ((HB2.out.trans (hbw.mono HB2.out.size)).setCell (p := ⟨w.heap.size, 4, none⟩) (Nat.le_refl _) _)
      clear hbx hfb hrb hsb hbb hbw hown
      go_upto_region 16 with fail
      clear d0 d1 d2 d3 d4 z4
      generalize wr.setCell ⟨w.heap.size, 4, none⟩ (.slice A9 f.bl.length c9) = W5 at *
      obtain ⟨d0, d1, d2, d3, d4⟩ := HF4.out.cells
      have r0 := Go.Joins.cell_of_block HR4.out 0
      have r1 := Go.Joins.cell_of_block HR4.out 1
      have r2 := Go.Joins.cell_of_block HR4.out 2
      have r3 := Go.Joins.cell_of_block HR4.out 3
      have r4 := Go.Joins.cell_of_block HR4.out 4
      have g0 := Go.Joins.unfrozen_of_block HR4.out 0
      have g1 := Go.Joins.unfrozen_of_block HR4.out 1
      have g2 := Go.Joins.unfrozen_of_block HR4.out 2
      have g3 := Go.Joins.unfrozen_of_block HR4.out 3
      have g4 := Go.Joins.unfrozen_of_block HR4.out 4
      go_wp2_with fail
      try simp only [Exit.inBlock, Exit.then]
      refine bodyPost_ret (v := .agg #[.string f.name, .int .i64 f.params, .int .i64 f.regs, .slice A6 f.slots.length c6, .slice A9 f.bl.length c9]) (by rw [results_cell1 rfl]; go_simp) rfl ?_
      have hk : ∀ (g : Nat) (cs : Array Value) (E : TypeId), E ≠ 25 → W5.heap[g]? = some (Obj.cells cs E (0, 0)) → (((((W5.setCell ⟨w.heap.size + 1, 0, none⟩ (.string f.name)).setCell ⟨w.heap.size + 1, 1, none⟩ (.int .i64 f.params)).setCell ⟨w.heap.size + 1, 2, none⟩ (.int .i64 f.regs)).setCell ⟨w.heap.size + 1, 3, none⟩ (.slice A6 f.slots.length c6)).setCell ⟨w.heap.size + 1, 4, none⟩ (.slice A9 f.bl.length c9)).heap[g]? = W5.heap[g]? := fun g cs E hE hgc => by
        have hne := tag_ne hgc HR4.out hE
        rw [heap_other _ hne, heap_other _ hne, heap_other _ hne, heap_other _ hne, heap_other _ hne]
      exact ⟨A6, c6, A9, c9, xs, rfl, ⟨HS4.out.keep fun g cs hgc => hk g cs 127 (by decide) hgc, HL4.out.keep fun g cs hgc => hk g cs 52 (by decide) hgc, HB4.out.keep fun g cs E hE hgc => hk g cs E (by rcases hE with rfl | rfl <;> decide) hgc⟩, ((((HBW.out.setCell (p := ⟨w.heap.size + 1, 0, none⟩) (Nat.le_succ _) _).setCell (p := ⟨w.heap.size + 1, 1, none⟩) (Nat.le_succ _) _).setCell (p := ⟨w.heap.size + 1, 2, none⟩) (Nat.le_succ _) _).setCell (p := ⟨w.heap.size + 1, 3, none⟩) (Nat.le_succ _) _).setCell (p := ⟨w.heap.size + 1, 4, none⟩) (Nat.le_succ _) _⟩
end Go.Proofs.YthgbmhpfblgjcaaGreatDoor.fl
