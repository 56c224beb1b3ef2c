/-
  The contracts of ptr and works of package catapultlaw14. Condition: the table of keywords stands in memory.
-/
import Derived.Test.YtejhphnlickjlaaDoorBlA
import Derived.Test.YtejhphnlickjlaaDoorBmF
import Derived.Test.YtejhphnlickjlaaDoorReg
set_option linter.unusedVariables false
set_option linter.unusedSimpArgs false
namespace Go.Proofs.YtejhphnlickjlaaDoor.bl
open Go.RowKit
open M
set_option linter.unusedVariables false
theorem sto_new (w : World) : Sto ((w.alloc (.map #[] 0)).alloc (.cells #[.slice none 0 0, .int .i64 0, .int .i64 0, .map (some w.heap.size)] 106)) w.heap.size (w.heap.size + 1) 0 ⟨[], 0, 0⟩ ⟨none, 0, w.heap.size, fun _ => 0, fun _ => 0⟩ := by
  have e1 := heap_alloc_new (w.alloc (.map #[] 0)) (.cells #[.slice none 0 0, .int .i64 0, .int .i64 0, .map (some w.heap.size)] 106)
  have s1 : (w.alloc (.map #[] 0)).heap.size = w.heap.size + 1 := by simp
  rw [s1] at e1
  refine ⟨Nat.le_succ _, e1, ⟨rfl, .inl ⟨rfl, rfl⟩⟩, Nat.le_refl _, ⟨.map [], ?_⟩, fun j b hb => by simp at hb, fun i j hi => by simp at hi, fun i j hi => by simp at hi⟩
  exact (World.ownsMap_made w Tryd.prog 3 (plainElem Tryd.prog 3)).alloc _
theorem new_any (w : World) : Calls Tryd.prog 55 #[] w fun e w' => e = .returned (.pointer (some ⟨w.heap.size + 1, 0, none⟩)) ∧ Sto w' w.heap.size (w.heap.size + 1) 0 ⟨[], 0, 0⟩ ⟨none, 0, w.heap.size, fun _ => 0, fun _ => 0⟩ ∧ Below w.heap.size w w' := by
  have hS := Lib.hid (sto_new w)
  have hmm := @run_makeMap Tryd.prog
  go_enter Tryd.func55, Tryd.ntmps55
  go_wp2_with fail
  go_ret
  exact ⟨rfl, hS.out, ((Below.refl _ _).alloc (Nat.le_refl _) _).alloc (by simp) _⟩
end Go.Proofs.YtejhphnlickjlaaDoor.bl
namespace Go.Proofs.YtejhphnlickjlaaDoor.bl
open Go.RowKit
open M ty
set_option linter.unusedVariables false
theorem keys_B {w w' : World} {B : Nat} (h : KeysIn w) (hb : Below B w w') (h0 : 0 < B) : KeysIn w' := fun hn => by
  obtain ⟨ad, e, hlt, hc⟩ := h hn
  obtain rfl := Option.some.inj e
  exact ⟨_, rfl, Nat.lt_of_lt_of_le hlt hb.size, fun j v hv => (hb.cell (p := Addr.add ⟨0, 0, none⟩ j) (by rw [M.block_add]; exact h0)).trans (hc j v hv)⟩
theorem ptr_any (b a : Int) (w : World) : Calls Tryd.prog 57 #[.int .i64 b, .int .i64 a] w fun e w' => e = .returned (.agg #[.int .i64 2, .int .i64 b, .int .i64 a]) ∧ Below w.heap.size w w' := by
  go_enter Tryd.func57, Tryd.ntmps57
  go_wp2_with fail
  try simp only [Exit.inBlock, Exit.then]
  refine bodyPost_ret (v := .agg #[.int .i64 2, .int .i64 b, .int .i64 a]) (by rw [results_cell1 rfl]; go_simp) rfl ?_
  exact ⟨rfl, (Below.refl _ _).alloc (Nat.le_refl _) _⟩
/-- a store, the table of keywords, and nothing else told -/
structure WkN (w W : World) (B g N : Nat) (st : St) (L : Lay) : Prop where
  sto : Sto W B g N st L
  keys : KeysIn W
  below : Below B w W
  B0 : 0 < B
/-- .. and a value's variable beside it -/
structure WkV (w W : World) (B g N : Nat) (st : St) (L : Lay) (V : Nat) (a x y : Int) : Prop where
  n : WkN w W B g N st L
  var : VarAt W V a x y
  nm : ¬ Mine g L st.bl.length V
  BV : B ≤ V
section
variable {w W W' : World} {B g N : Nat} {st st' : St} {L : Lay} {V : Nat} {a x y : Int}
theorem WkN.Bs (h : WkN w W B g N st L) : B ≤ W.heap.size := Nat.le_of_lt (Nat.lt_of_le_of_lt h.sto.Bg h.sto.lt)
theorem WkN.after (h : WkN w W B g N st L) (hb : Below W.heap.size W W') : WkN w W' B g N st L := ⟨h.sto.below hb, h.keys.below hb, h.below.trans (hb.mono h.Bs), h.B0⟩
theorem WkN.alloc (h : WkN w W B g N st L) (o : Obj) : WkN w (W.alloc o) B g N st L := h.after ((Below.refl _ _).alloc (Nat.le_refl _) _)
theorem WkN.fr {N' : Nat} {L' : Lay} (h : WkN w W B g N st L) (hf : Fr W W' g L st.bl.length) (hs : Sto W' B g N' st' L') : WkN w W' B g N' st' L' := ⟨hs, keys_B h.keys (hf.below h.sto) h.B0, h.below.trans (hf.below h.sto), h.B0⟩
theorem WkV.after (h : WkV w W B g N st L V a x y) (hb : Below W.heap.size W W') : WkV w W' B g N st L V a x y := ⟨h.n.after hb, (hb.block _ (Array.getElem?_eq_some_iff.1 h.var).1).trans h.var, h.nm, h.BV⟩
theorem WkV.alloc (h : WkV w W B g N st L V a x y) (o : Obj) : WkV w (W.alloc o) B g N st L V a x y := h.after ((Below.refl _ _).alloc (Nat.le_refl _) _)
theorem WkV.drew (h : WkV w W B g N st L V a x y) : WkV w W.drew B g N st L V a x y := ⟨⟨h.n.sto.drew, h.n.keys, h.n.below.drew, h.n.B0⟩, h.var, h.nm, h.BV⟩
theorem WkV.new (h : WkN w W B g N st L) (a x y : Int) : WkV w (W.alloc (.cells #[.int .i64 a, .int .i64 x, .int .i64 y] 24)) B g N st L W.heap.size a x y := ⟨h.alloc _, heap_alloc_new W _, fun hm => by have := h.sto.mine_lt hm; omega, h.Bs⟩
theorem WkV.fr {N' : Nat} (h : WkV w W B g N st L V a x y) (hf : Fr W W' g L st.bl.length) (hs : Sto W' B g N' st' L) (hl : st'.bl.length = st.bl.length) : WkV w W' B g N' st' L V a x y :=
  ⟨h.n.fr hf hs, (hf.block V (Array.getElem?_eq_some_iff.1 h.var).1 h.nm).trans h.var, by rw [hl]; exact h.nm, h.BV⟩
theorem VarAt.frozen (h : VarAt W V a x y) : W.frozen? ⟨V, 0, none⟩ = false ∧ W.frozen? ⟨V, 1, none⟩ = false ∧ W.frozen? ⟨V, 2, none⟩ = false := ⟨Go.Joins.unfrozen_of_block h 0, Go.Joins.unfrozen_of_block h 1, Go.Joins.unfrozen_of_block h 2⟩
end
abbrev iT : ByteArray := ⟨#[105]⟩
abbrev cT : ByteArray := ⟨#[99]⟩
abbrev piT : ByteArray := ⟨#[112, 105]⟩
abbrev pcT : ByteArray := ⟨#[112, 99]⟩
section
variable {w : World} {B g : Nat}
def StoreN (w : World) (B g N : Nat) (st st' : St) (i o : Int) (s : ByteArray) (a x y : Int) : Prop := ∀ W L, WkN w W B g N st L → Calls Tryd.prog 25 #[.pointer (some ⟨g, 0, none⟩), .agg #[.int .i64 2, .int .i64 i, .int .i64 o], .string s, .agg #[.int .i64 a, .int .i64 x, .int .i64 y]] W fun e w' => e = .returned (.int .i64 0) ∧ Sto w' B g (N + 1) st' L ∧ Fr W w' g L st.bl.length
def LoadN (w : World) (B g N : Nat) (st : St) (i o : Int) (s : ByteArray) (a x y E : Int) : Prop := ∀ W L, WkN w W B g N st L → Calls Tryd.prog 22 #[.pointer (some ⟨g, 0, none⟩), .agg #[.int .i64 2, .int .i64 i, .int .i64 o], .string s] W fun e w' => e = .returned (.tuple #[.agg #[.int .i64 a, .int .i64 x, .int .i64 y], .int .i64 E]) ∧ Below W.heap.size W w'
theorem storeN {N : Nat} {st : St} {i o a x y : Int} {s : ByteArray} {n : Nat} (hN : N < 1099511627776) (hs : s.size ≤ maxLen) (i0 : -9223372036854775808 ≤ i) (i1 : i ≤ 9223372036854775807) (hE : storeE st (T.nums s) 2 i o a x y = 0) (hw : widthT (T.nums s) = n) :
    StoreN w B g N st (st.put (i - 1).toNat o.toNat (stB n a x y)) i o s a x y := fun W L hW => by
  have := store_any hW.sto hN hW.keys hs 2 i o a x y i0 i1
  rw [hE, hw] at this
  exact this.mono fun e w' ⟨p, q, _⟩ => ⟨p, (q rfl).1, by have := (q rfl).2; rwa [put_length] at this⟩
theorem loadN {N : Nat} {st : St} {i o a x y E : Int} {s : ByteArray} (hs : s.size ≤ maxLen) (i0 : -9223372036854775808 ≤ i) (i1 : i ≤ 9223372036854775807) (hE : loadR st (T.nums s) 2 i o = (E, a, x, y)) : LoadN w B g N st i o s a x y E := fun W L hW => by
  have := load_any hW.sto hW.keys s hs 2 i o i0 i1
  rw [hE] at this
  exact this
end
end Go.Proofs.YtejhphnlickjlaaDoor.bl
