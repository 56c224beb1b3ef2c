/-
  The law BlockKeeps of package catapultlaw14, as a contract. Conditions: the table of keywords stands in memory; the list of calls, and the call, read as told.
-/
import Derived.Test.YtejhphnlickjlaaDoorBmV
import Derived.Deep.DeepCutAuto
import Derived.Deep.CutRange
import Derived.Deep.CutBlock
import Derived.Shelf.SlIterI.Nil
import Derived.Shelf.SortM.Plain
import Derived.Shelf.SortM.SortNone
set_option linter.unusedVariables false
set_option linter.unusedSimpArgs false
namespace Go.Proofs.YtejhphnlickjlaaDoor.bl
open Go.RowKit
open M ty
set_option linter.unusedVariables false
theorem drewN_drewN (w : World) (a b : Nat) : (w.drewN a).drewN b = w.drewN (a + b) := by
  simp
set_option maxRecDepth 20000 in
set_option maxHeartbeats 4000000 in
theorem bytes_same {w : World} {B0 B1 n cx cy : Nat} {X Y : Option Addr} {l : List By} (hl : l.length = n) (hm : n ≤ 131072) (hX : RowB w B0 X l) (hY : RowB w B1 Y l) :
    Calls Tryd.prog 37 #[.slice X n cx, .slice Y n cy] w fun e w' => e = .returned (.bool true) ∧ ∃ m, w' = w.drewN m := by
  have heb := eqB
  have hgb := grdB
  by_cases h0 : n = 0
  · subst h0
    clear hX hY
    go_enter Tryd.func37, Tryd.ntmps37
    go_wp2_with fail
    go_loopw [13] (fun t wr => t = .int .i64 0 ∧ wr = w) (fun t _ => 0)
    case atStart => exact ⟨rfl, rfl⟩
    case round =>
      obtain ⟨rfl, rfl⟩ := hrel
      go_wp2_with fail
      go_ret
      exact ⟨rfl, 0, rfl⟩
  · obtain ⟨x, rfl, -, -, hx⟩ := hX (by omega)
    obtain ⟨y, rfl, -, -, hy⟩ := hY (by omega)
    have HX := Lib.hid hx
    have HY := Lib.hid hy
    have HL := Lib.hid hl
    clear hx hy hl hX hY
    go_enter Tryd.func37, Tryd.ntmps37
    go_wp2_with fail
    go_loopw [13] (fun t wr => ∃ i m : Nat, i ≤ n ∧ t = .int .i64 i ∧ wr = w.drewN m) (fun t _ => n - (intOf t).toNat)
    case atStart => exact ⟨0, 0, by omega, rfl, rfl⟩
    case round =>
      obtain ⟨i, m, hi, rfl, rfl⟩ := hrel
      by_cases hlt : i < n
      · have hli : (i : Int) < (n : Int) := by omega
        have hi1 : i < l.length := by rw [HL.out]; exact hlt
        have g1 : l[i]? = some l[i] := List.getElem?_eq_getElem hi1
        obtain ⟨p0, p1, p2, p3, p4, p5⟩ := HX.out i _ g1
        obtain ⟨q0, q1, q2, q3, q4, q5⟩ := HY.out i _ g1
        generalize l[i] = bx at *
        simp only [Nat.zero_add] at p0 p1 p2 p3 p4 p5 q0 q1 q2 q3 q4 q5
        have hb1 := By.eqB_self bx
        clear g1 hi1
        go_wp2_with fail
        go_quiet (fail)
        go_wp2_with fail
        go_roundw
        case rel => exact ⟨i + 1, _, by omega, by go_num, rfl⟩
        case measure => simp [intOf]; omega
      · obtain rfl : i = n := by omega
        go_wp2_with fail
        go_ret
        exact ⟨rfl, m, rfl⟩
end Go.Proofs.YtejhphnlickjlaaDoor.bl
namespace Go.Proofs.YtejhphnlickjlaaDoor.bl
open Go.RowKit
open M ty
set_option linter.unusedVariables false
/-- the variable of a call stands -/
structure EnvA (w W : World) (x : Ac) : Prop where
  below : Below w.heap.size w W
  a : W.heap[w.heap.size]? = some (.cells #[.int .i64 x.kind, .int .i64 x.n, .int .i64 x.m, .int .i64 x.pk, .int .i64 x.pi, .int .i64 x.po, .int .i64 x.qk, .int .i64 x.qi, .int .i64 x.qo, .int .i64 x.vk, .int .i64 x.vi, .int .i64 x.vo, .string x.t, .string x.text] 63 (0, 0))
/-- .. and a store behind it -/
structure LawA (w W : World) (B g N : Nat) (st : St) (L : Lay) (x : Ac) : Prop where
  e : EnvA w W x
  sto : Sto W B g N st L
  hB : w.heap.size < B
  keys : KeysIn W
def ChangedIs (W : World) (B g N : Nat) (st : St) (L : Lay) (e : Ending) (w' : World) : Prop := ∃ A n c, e = .returned (.slice A n c) ∧ (N = 0 → n = 0) ∧ Sto w' B g 0 st L ∧ Fr W w' g L st.bl.length
def ChangedC : Prop := ∀ W B g N st L, Sto W B g N st L → N < 1099511627776 → Calls Tryd.prog 32 #[.pointer (some ⟨g, 0, none⟩)] W (ChangedIs W B g N st L)
def MadeK (w : World) (x : Ac) (A : Option Addr) (m cap : Nat) : Prop := ∀ W, EnvA w W x → Calls Tryd.prog 21 #[.slice A m cap] W fun e w' => ∃ B g N st L, e = .returned (.pointer (some ⟨g, 0, none⟩)) ∧ Below W.heap.size W w' ∧ Sto w' B g N st L ∧ W.heap.size ≤ B ∧ KeysIn w' ∧ N < 1099511627776
def WorksA (w : World) (x : Ac) : Prop := ∀ W, EnvA w W x → Calls Tryd.prog 20 #[] W fun e w' => e = .returned (.bool true) ∧ Below W.heap.size W w'
/-- what a call that writes has done: all, or nothing -/
def DoneA (w W : World) (B g : Nat) (L : Lay) (st : St) (x : Ac) (a1 a1' B1 n : Nat) (E : Int) : Prop := ∃ st2 N2, LawA w W B g N2 st2 L x ∧ N2 < 1099511627775 ∧ Told W B1 a1 a1' st ∧ (E = 0 ∨ (E != 0) = true ∧ st2 = st ∧ N2 = 0)
section
variable {w W W' : World} {B g N N' a1 a1' B1 : Nat} {st st' : St} {L : Lay} {x : Ac} {E : Int} {e : Ending}
theorem EnvA.after (h : EnvA w W x) (hb : Below W.heap.size W W') : EnvA w W' x := ⟨h.below.trans (hb.mono h.below.size), (hb.block _ (Array.getElem?_eq_some_iff.1 h.a).1).trans h.a⟩
theorem EnvA.new (w : World) (x : Ac) : EnvA w (w.alloc (.cells #[.int .i64 x.kind, .int .i64 x.n, .int .i64 x.m, .int .i64 x.pk, .int .i64 x.pi, .int .i64 x.po, .int .i64 x.qk, .int .i64 x.qi, .int .i64 x.qo, .int .i64 x.vk, .int .i64 x.vi, .int .i64 x.vo, .string x.t, .string x.text] 63)) x := ⟨(Below.refl _ _).alloc (Nat.le_refl _) _, heap_alloc_new w _⟩
theorem EnvA.cells (h : EnvA w W x) : W.cell? ⟨w.heap.size, 0, none⟩ = some (.int .i64 x.kind) ∧ W.cell? ⟨w.heap.size, 1, none⟩ = some (.int .i64 x.n) ∧ W.cell? ⟨w.heap.size, 2, none⟩ = some (.int .i64 x.m) ∧ W.cell? ⟨w.heap.size, 3, none⟩ = some (.int .i64 x.pk) ∧ W.cell? ⟨w.heap.size, 4, none⟩ = some (.int .i64 x.pi) ∧ W.cell? ⟨w.heap.size, 5, none⟩ = some (.int .i64 x.po) ∧ W.cell? ⟨w.heap.size, 6, none⟩ = some (.int .i64 x.qk) ∧ W.cell? ⟨w.heap.size, 7, none⟩ = some (.int .i64 x.qi) ∧ W.cell? ⟨w.heap.size, 8, none⟩ = some (.int .i64 x.qo) ∧ W.cell? ⟨w.heap.size, 9, none⟩ = some (.int .i64 x.vk) ∧ W.cell? ⟨w.heap.size, 10, none⟩ = some (.int .i64 x.vi) ∧ W.cell? ⟨w.heap.size, 11, none⟩ = some (.int .i64 x.vo) ∧ W.cell? ⟨w.heap.size, 12, none⟩ = some (.string x.t) ∧ W.cell? ⟨w.heap.size, 13, none⟩ = some (.string x.text) := ⟨Go.Joins.cell_of_block h.a 0, Go.Joins.cell_of_block h.a 1, Go.Joins.cell_of_block h.a 2, Go.Joins.cell_of_block h.a 3, Go.Joins.cell_of_block h.a 4, Go.Joins.cell_of_block h.a 5, Go.Joins.cell_of_block h.a 6, Go.Joins.cell_of_block h.a 7, Go.Joins.cell_of_block h.a 8, Go.Joins.cell_of_block h.a 9, Go.Joins.cell_of_block h.a 10, Go.Joins.cell_of_block h.a 11, Go.Joins.cell_of_block h.a 12, Go.Joins.cell_of_block h.a 13⟩
theorem LawA.after (h : LawA w W B g N st L x) (hb : Below W.heap.size W W') : LawA w W' B g N st L x := ⟨h.e.after hb, h.sto.below hb, h.hB, h.keys.below hb⟩
theorem LawA.wrote (h : LawA w W B g N st L x) (hf : Fr W W' g L st.bl.length) (hs : Sto W' B g N' st' L) : LawA w W' B g N' st' L x := by
  have hb := hf.below h.sto
  have := h.hB
  exact ⟨⟨h.e.below.trans (hb.mono (by omega)), (hb.block _ (by omega)).trans h.e.a⟩, hs, h.hB, keys_B h.keys hb (by omega)⟩
theorem done_of (h : LawA w W B g 0 st L x) (ht : Told W B1 a1 a1' st) (hm : ∀ q, Mine g L st.bl.length q → q < B1) (hl : st'.bl.length = st.bl.length) (hw : Wrote W B g 0 st' L E e W') : e = .returned (.int .i64 E) ∧ DoneA w W' B g L st x a1 a1' B1 0 E := by
  obtain ⟨h1, h2, h3⟩ := hw
  refine ⟨h1, ?_⟩
  by_cases hE : E = 0
  · obtain ⟨hs, hf⟩ := h2 hE
    rw [hl] at hf
    exact ⟨st', 1, h.wrote hf hs, by decide, ht.wrote hm hf, .inl hE⟩
  · have hb := h3 hE
    exact ⟨st, 0, h.after hb, by decide, ht.after hb, .inr ⟨by simpa using hE, rfl, rfl⟩⟩
theorem dead_reach {k i o n : Int} (h : livesB st i = false) : reachE st k i o n ≠ 0 := fun h0 => by
  obtain ⟨rfl, i1, i2, o0, b, hb, hd, _⟩ := reach_zero h0
  unfold livesB at h
  rw [decide_eq_true ⟨i1, i2⟩, hb] at h
  simp [hd] at h
end
/-- a method that reads, called at the store, tells v -/
def AtR (B g N : Nat) (st : St) (L : Lay) (f : FuncId) (args : Array Value) (v : Value) : Prop := ∀ W, Sto W B g N st L → KeysIn W → Calls Tryd.prog f args W fun e w' => e = .returned v ∧ Below W.heap.size W w'
def DeadK (B g N : Nat) (st : St) (L : Lay) (x : Ac) (E1 E2 E3 E4 E5 E6 : Int) : Prop :=
  AtR B g N st L 22 #[.pointer (some ⟨g, 0, none⟩), .agg #[.int .i64 x.pk, .int .i64 x.pi, .int .i64 x.po], .string ⟨#[99]⟩] (.tuple #[.agg #[.int .i64 0, .int .i64 0, .int .i64 0], .int .i64 E1]) ∧
  AtR B g N st L 31 #[.pointer (some ⟨g, 0, none⟩), .agg #[.int .i64 x.pk, .int .i64 x.pi, .int .i64 x.po], .agg #[.int .i64 x.pk, .int .i64 x.pi, .int .i64 x.po]] (.tuple #[.bool false, .int .i64 E2]) ∧
  AtR B g N st L 28 #[.pointer (some ⟨g, 0, none⟩), .agg #[.int .i64 x.pk, .int .i64 x.pi, .int .i64 x.po], .int .i64 0] (.tuple #[.agg #[.int .i64 0, .int .i64 0, .int .i64 0], .int .i64 E3]) ∧
  AtR B g N st L 23 #[.pointer (some ⟨g, 0, none⟩), .agg #[.int .i64 x.pk, .int .i64 x.pi, .int .i64 x.po]] (.tuple #[.int .i64 0, .int .i64 E4]) ∧
  AtR B g N st L 25 #[.pointer (some ⟨g, 0, none⟩), .agg #[.int .i64 x.pk, .int .i64 x.pi, .int .i64 x.po], .string ⟨#[99]⟩, .agg #[.int .i64 1, .int .i64 0, .int .i64 0]] (.int .i64 E5) ∧
  AtR B g N st L 24 #[.pointer (some ⟨g, 0, none⟩), .agg #[.int .i64 x.pk, .int .i64 x.pi, .int .i64 x.po], .agg #[.int .i64 x.pk, .int .i64 x.pi, .int .i64 x.po], .int .i64 0] (.int .i64 E6) ∧
  (E1 != 0) = true ∧ (E2 != 0) = true ∧ (E3 != 0) = true ∧ (E4 != 0) = true ∧ (E5 != 0) = true ∧ (E6 != 0) = true
theorem dead_k {B g N : Nat} {st : St} {L : Lay} {x : Ac} (hN : N < 1099511627776) (hp : In64 x.pi) (hk : x.pk = 2) (hl : livesB st x.pi = false) : ∃ E1 E2 E3 E4 E5 E6, DeadK B g N st L x E1 E2 E3 E4 E5 E6 := by
  have hr : ∀ n, reachE st x.pk x.pi x.po n ≠ 0 := fun n => dead_reach hl
  have hf : fixedB x.pk = false := by rw [hk]; rfl
  have hlim : (10 : Nat) ≤ maxLen := by simp [maxLen]
  have h1 : loadR st [99] x.pk x.pi x.po = (reachE st x.pk x.pi x.po 1, 0, 0, 0) := by
    unfold loadR
    rw [width_c]
    simp only [show ((1 : Nat) : Int) = 1 from rfl]
    rw [if_neg (by decide), if_pos (hr 1)]
  have h2 : sameR st x.pk x.pi x.po x.pk x.pi x.po = (false, reachE st x.pk x.pi x.po 0) := by
    unfold sameR
    rw [hf, if_neg (by simp), if_pos ⟨rfl, hr 0⟩]
  have h3 : addE st x.pk x.pi x.po 0 = reachE st x.pk x.pi x.po 0 := by
    unfold addE
    rw [hf, if_neg (by simp), if_pos (hr 0)]
  have h4 : ctxR st x.pk x.pi x.po = (reachE st x.pk x.pi x.po 64, 0) := by
    unfold ctxR
    rw [if_pos (hr 64)]
  have h5 : storeE st [99] x.pk x.pi x.po 1 0 0 ≠ 0 := by
    unfold storeE
    rw [width_c]
    simp only [show ((1 : Nat) : Int) = 1 from rfl]
    split
    · decide
    · rw [if_pos (hr 1)]; exact hr 1
  have h6 : copyE st x.pk x.pi x.po x.pk x.pi x.po 0 ≠ 0 := by
    unfold copyE
    rw [if_neg (by decide), if_pos (hr 0)]
    exact hr 0
  refine ⟨reachE st x.pk x.pi x.po 1, reachE st x.pk x.pi x.po 0, reachE st x.pk x.pi x.po 0, reachE st x.pk x.pi x.po 64, storeE st [99] x.pk x.pi x.po 1 0 0, copyE st x.pk x.pi x.po x.pk x.pi x.po 0, ?_, ?_, ?_, ?_, ?_, ?_, by simpa using hr 1, by simpa using hr 0, by simpa using hr 0, by simpa using hr 64, by simpa using h5, by simpa using h6⟩
  · intro W hW hK
    have := load_any hW hK ⟨#[99]⟩ (Nat.le_trans (by decide) hlim) x.pk x.pi x.po hp.1 hp.2
    rw [show T.nums (⟨#[99]⟩ : ByteArray) = [99] from rfl, h1] at this
    exact this
  · intro W hW hK
    have := same_any hW x.pk x.pi x.po x.pk x.pi x.po hp.1 hp.2 hp.1 hp.2
    rw [h2] at this
    exact this
  · intro W hW hK
    have := add_any hW x.pk x.pi x.po 0 hp.1 hp.2 (by decide) (by decide)
    unfold addR at this
    rw [if_neg (by rw [h3]; exact hr 0), h3] at this
    exact this
  · intro W hW hK
    have := ctx_any hW x.pk x.pi x.po hp.1 hp.2
    rw [h4] at this
    exact this
  · intro W hW hK
    refine (store_any hW hN hK (s := ⟨#[99]⟩) (Nat.le_trans (by decide) hlim) x.pk x.pi x.po 1 0 0 hp.1 hp.2).mono fun e w' h => ?_
    rw [show T.nums (⟨#[99]⟩ : ByteArray) = [99] from rfl] at h
    exact ⟨h.1, h.2.2 h5⟩
  · intro W hW hK
    exact (copy_any hW hN x.pk x.pi x.po x.pk x.pi x.po 0 hp.1 hp.2 hp.1 hp.2).mono fun e w' h => ⟨h.1, h.2.2 h6⟩
section
variable {w : World} {x : Ac} {A : Option Addr} {m cap : Nat}
set_option maxRecDepth 20000 in
set_option maxHeartbeats 40000000 in
theorem keeps_walk (HW : Hid (WorksA w x)) (HM : Hid (MadeK w x A m cap)) (HC : Hid ChangedC) (HO : Hid (AcOk x)) (hkw : KeysIn w) :
    Calls Tryd.prog 7 #[.slice A m cap, .agg #[.int .i64 x.kind, .int .i64 x.n, .int .i64 x.m, .int .i64 x.pk, .int .i64 x.pi, .int .i64 x.po, .int .i64 x.qk, .int .i64 x.qi, .int .i64 x.qo, .int .i64 x.vk, .int .i64 x.vi, .int .i64 x.vo, .string x.t, .string x.text]] w fun e w' => e = .returned (.bool true) ∧ Below w.heap.size w w' := by
  clear hkw
  go_enter Tryd.func7, Tryd.ntmps7
  go_wp2_with (first
    | (go_at_call 20; refine (HW.out _ (EnvA.new w x)).mono ?_; rintro e w0 ⟨rfl, hb⟩; have H := Lib.hid ((EnvA.new w x).after hb); clear hb)
    | (go_at_call 21; refine (HM.out _ H.out).mono ?_; rintro e w0 ⟨B, g, N, st, L, rfl, hb, hs, hB, hky, hn⟩; have h : LawA w w0 B g N st L x := ⟨H.out.after hb, hs, by have := (Array.getElem?_eq_some_iff.1 H.out.a).1; omega, hky⟩; (try clear H); have H := Lib.hid h; have HN := Lib.hid hn; have HMX : Hid (∀ b, (bsAt st b).length ≤ 131072) := Lib.hid (bsAt_max (fun b hb => by obtain ⟨j, hj, rfl⟩ := List.mem_iff_getElem.1 hb; exact (hs.body j _ (List.getElem?_eq_getElem hj)).2.2.2.2)); clear h hb hs hB hky hn))
  go_wp2_with (go_at_call 26; refine (all_any H.out.sto).mono ?_; rintro e w1 ⟨A1, c1, A1', c1', vs, rfl, hA⟩; have HMI : Hid (∀ q, Mine g L st.bl.length q → q < w0.heap.size) := Lib.hid (fun q hq => H.out.sto.mine_lt hq); have h := H.out.after hA.below; obtain ⟨a1, a1', rfl, rfl, ht⟩ := hA.told; (try clear H); have H := Lib.hid h; have HT := Lib.hid ht; clear h ht hA)
  go_upto_block 0 with (go_at_call 32; refine (HC.out _ _ _ _ _ _ H.out.sto HN.out).mono ?_; rintro e w2 ⟨X, nx, cx, rfl, -, hs, hf⟩; have h := H.out.wrote hf hs; have ht := HT.out.wrote HMI.out hf; (try clear H); have H := Lib.hid h; (try clear HT); have HT := Lib.hid ht; obtain ⟨c0, c1, c2, c3, c4, c5, c6, c7, c8, c9, c10, c11, c12, c13⟩ := h.e.cells; clear h ht hs hf)
  go_cut [8] from 33 to 83 (fun e wc => ∃ E, e = .int .i64 E ∧ DoneA w wc B g L st x a1 a1' w0.heap.size 0 E)
  case first =>
    go_wp2_with (first
      | (go_at_call 33; refine (kill_any H.out.sto (by decide) x.n HO.out.1.1 HO.out.1.2).mono ?_; intro e w3 hw; obtain ⟨rfl, hd⟩ := done_of H.out HT.out HMI.out (kill_length _ _) hw; have HD := Lib.hid hd; clear hw hd)
      | (go_at_call 25; refine (store_any H.out.sto (by decide) H.out.keys HO.out.2.2.2 x.pk x.pi x.po x.vk x.vi x.vo HO.out.2.1.1 HO.out.2.1.2).mono ?_; intro e w3 hw; obtain ⟨rfl, hd⟩ := done_of H.out HT.out HMI.out (put_length _ _ _ _) hw; have HD := Lib.hid hd; clear hw hd)
      | (go_at_call 24; refine (copy_any H.out.sto (by decide) x.pk x.pi x.po x.qk x.qi x.qo x.n HO.out.2.1.1 HO.out.2.1.2 HO.out.2.2.1.1 HO.out.2.2.1.2).mono ?_; intro e w3 hw; obtain ⟨rfl, hd⟩ := done_of H.out HT.out HMI.out (put_length _ _ _ _) hw; have HD := Lib.hid hd; clear hw hd)
      | (go_at_call 34; refine (puts_any H.out.sto (by decide) x.pk x.pi x.po HO.out.2.1.1 HO.out.2.1.2).mono ?_; intro e w3 hw; obtain ⟨rfl, hd⟩ := done_of H.out HT.out HMI.out (put_length _ _ _ _) hw; have HD := Lib.hid hd; clear hw hd)
      | (go_at_call 35; refine (unset_any H.out.sto (by decide) x.pk x.pi x.po x.n HO.out.2.1.1 HO.out.2.1.2).mono ?_; intro e w3 hw; obtain ⟨rfl, hd⟩ := done_of H.out HT.out HMI.out (put_length _ _ _ _) hw; have HD := Lib.hid hd; clear hw hd)
      | (go_at_call 36; refine (sctx_any H.out.sto (by decide) x.pk x.pi x.po x.n HO.out.2.1.1 HO.out.2.1.2).mono ?_; intro e w3 hw; obtain ⟨rfl, hd⟩ := done_of H.out HT.out HMI.out (put_length _ _ _ _) hw; have HD := Lib.hid hd; clear hw hd))
    all_goals first
      | (go_meet
         case rel => exact ⟨_, rfl, HD.out⟩)
      | (go_ret
         exact ⟨rfl, H.out.e.below⟩)
  case rest =>
    obtain ⟨E, rfl, st2, N2, hL, hN2, hT, hE⟩ := hcut
    have HH := Lib.hid hL
    clear H HT
    have HT := Lib.hid hT
    (try clear c0 c1 c2 c3 c4 c5 c6 c7 c8 c9 c10 c11 c12 c13)
    obtain ⟨c0, c1, c2, c3, c4, c5, c6, c7, c8, c9, c10, c11, c12, c13⟩ := hL.e.cells
    clear hL hT
    rcases hE with rfl | ⟨hE, rfl, rfl⟩
    · skip
      by_cases hk2 : x.pk = 2
      · have hk : (x.pk == 2) = true := by simpa using hk2
        cases hlv : livesB st2 x.pi with
        | true =>
          clear hk2
          go_wp2_with (first
            | (go_at_call 27; refine (lives_any HH.out.sto x.pi HO.out.2.1.1 HO.out.2.1.2).mono ?_; rintro e w7 ⟨rfl, rfl⟩; rw [hlv])
            | (go_at_call 26; refine (all_any HH.out.sto).mono ?_; rintro e w4 ⟨A2, d2, A2', d2', vs2, rfl, hA⟩; have h := HH.out.after hA.below; have ht := HT.out.after hA.below; obtain ⟨a2, a2', rfl, rfl, hu⟩ := hA.told; clear HH; have HH := Lib.hid h; clear HT; have HT := Lib.hid ht; have HU := Lib.hid hu; (try clear c0 c1 c2 c3 c4 c5 c6 c7 c8 c9 c10 c11 c12 c13); obtain ⟨c0, c1, c2, c3, c4, c5, c6, c7, c8, c9, c10, c11, c12, c13⟩ := h.e.cells; clear h ht hu hA))
          go_ret
          exact ⟨rfl, HH.out.e.below⟩
        | false =>
          obtain ⟨E1, E2, E3, E4, E5, E6, hd⟩ := dead_k (B := B) (g := g) (N := N2) (L := L) (by omega) HO.out.2.1 hk2 hlv
          have HD := Lib.hid hd
          obtain ⟨d1, d2, d3, d4, d5, d6⟩ := hd.2.2.2.2.2.2
          clear hk2 hd
          go_wp2_with (first
            | (go_at_call 27; refine (lives_any HH.out.sto x.pi HO.out.2.1.1 HO.out.2.1.2).mono ?_; rintro e w7 ⟨rfl, rfl⟩; rw [hlv])
            | (go_at_call 22; refine (HD.out.1 _ HH.out.sto HH.out.keys).mono ?_; rintro e w8 ⟨rfl, hb⟩; have h0 := HH.out.after hb; have h := h0.after ((Below.refl _ _).alloc (Nat.le_refl _) (.cells #[.int .i64 0, .int .i64 0, .int .i64 0] 24)); clear HH; have HH := Lib.hid h; (try clear c0 c1 c2 c3 c4 c5 c6 c7 c8 c9 c10 c11 c12 c13); obtain ⟨c0, c1, c2, c3, c4, c5, c6, c7, c8, c9, c10, c11, c12, c13⟩ := h.e.cells; clear h h0 hb)
            | (go_at_call 31; refine (HD.out.2.1 _ HH.out.sto HH.out.keys).mono ?_; rintro e w9 ⟨rfl, hb⟩; have h := HH.out.after hb; clear HH; have HH := Lib.hid h; (try clear c0 c1 c2 c3 c4 c5 c6 c7 c8 c9 c10 c11 c12 c13); obtain ⟨c0, c1, c2, c3, c4, c5, c6, c7, c8, c9, c10, c11, c12, c13⟩ := h.e.cells; clear h hb)
            | (go_at_call 28; refine (HD.out.2.2.1 _ HH.out.sto HH.out.keys).mono ?_; rintro e wa ⟨rfl, hb⟩; have h0 := HH.out.after hb; have h := h0.after ((Below.refl _ _).alloc (Nat.le_refl _) (.cells #[.int .i64 0, .int .i64 0, .int .i64 0] 24)); clear HH; have HH := Lib.hid h; (try clear c0 c1 c2 c3 c4 c5 c6 c7 c8 c9 c10 c11 c12 c13); obtain ⟨c0, c1, c2, c3, c4, c5, c6, c7, c8, c9, c10, c11, c12, c13⟩ := h.e.cells; clear h h0 hb)
            | (go_at_call 23; refine (HD.out.2.2.2.1 _ HH.out.sto HH.out.keys).mono ?_; rintro e wb ⟨rfl, hb⟩; have h := HH.out.after hb; clear HH; have HH := Lib.hid h; (try clear c0 c1 c2 c3 c4 c5 c6 c7 c8 c9 c10 c11 c12 c13); obtain ⟨c0, c1, c2, c3, c4, c5, c6, c7, c8, c9, c10, c11, c12, c13⟩ := h.e.cells; clear h hb)
            | (go_at_call 25; refine (HD.out.2.2.2.2.1 _ HH.out.sto HH.out.keys).mono ?_; rintro e wc ⟨rfl, hb⟩; have h := HH.out.after hb; clear HH; have HH := Lib.hid h; (try clear c0 c1 c2 c3 c4 c5 c6 c7 c8 c9 c10 c11 c12 c13); obtain ⟨c0, c1, c2, c3, c4, c5, c6, c7, c8, c9, c10, c11, c12, c13⟩ := h.e.cells; clear h hb)
            | (go_at_call 24; refine (HD.out.2.2.2.2.2.1 _ HH.out.sto HH.out.keys).mono ?_; rintro e wd ⟨rfl, hb⟩; have h := HH.out.after hb; clear HH; have HH := Lib.hid h; (try clear c0 c1 c2 c3 c4 c5 c6 c7 c8 c9 c10 c11 c12 c13); obtain ⟨c0, c1, c2, c3, c4, c5, c6, c7, c8, c9, c10, c11, c12, c13⟩ := h.e.cells; clear h hb)
            | (go_at_call 26; refine (all_any HH.out.sto).mono ?_; rintro e w4 ⟨A2, d2, A2', d2', vs2, rfl, hA⟩; have h := HH.out.after hA.below; have ht := HT.out.after hA.below; obtain ⟨a2, a2', rfl, rfl, hu⟩ := hA.told; clear HH; have HH := Lib.hid h; clear HT; have HT := Lib.hid ht; have HU := Lib.hid hu; (try clear c0 c1 c2 c3 c4 c5 c6 c7 c8 c9 c10 c11 c12 c13); obtain ⟨c0, c1, c2, c3, c4, c5, c6, c7, c8, c9, c10, c11, c12, c13⟩ := h.e.cells; clear h ht hu hA))
          go_ret
          exact ⟨rfl, HH.out.e.below⟩
      · have hk : (x.pk == 2) = false := by simpa using hk2
        clear hk2
        go_wp2_with (first
            | (go_at_call 27; refine (lives_any HH.out.sto x.pi HO.out.2.1.1 HO.out.2.1.2).mono ?_; rintro e w7 ⟨rfl, rfl⟩; rw [hlv])
            | (go_at_call 26; refine (all_any HH.out.sto).mono ?_; rintro e w4 ⟨A2, d2, A2', d2', vs2, rfl, hA⟩; have h := HH.out.after hA.below; have ht := HT.out.after hA.below; obtain ⟨a2, a2', rfl, rfl, hu⟩ := hA.told; clear HH; have HH := Lib.hid h; clear HT; have HT := Lib.hid ht; have HU := Lib.hid hu; (try clear c0 c1 c2 c3 c4 c5 c6 c7 c8 c9 c10 c11 c12 c13); obtain ⟨c0, c1, c2, c3, c4, c5, c6, c7, c8, c9, c10, c11, c12, c13⟩ := h.e.cells; clear h ht hu hA))
        go_ret
        exact ⟨rfl, HH.out.e.below⟩
    · clear hN2
      go_wp2_with (go_at_call 26; refine (all_any HH.out.sto).mono ?_; rintro e w4 ⟨A2, d2, A2', d2', vs2, rfl, hA⟩; have h := HH.out.after hA.below; have ht := HT.out.after hA.below; obtain ⟨a2, a2', rfl, rfl, hu⟩ := hA.told; clear HH; have HH := Lib.hid h; clear HT; have HT := Lib.hid ht; have HU := Lib.hid hu; (try clear c0 c1 c2 c3 c4 c5 c6 c7 c8 c9 c10 c11 c12 c13); obtain ⟨c0, c1, c2, c3, c4, c5, c6, c7, c8, c9, c10, c11, c12, c13⟩ := h.e.cells; clear h ht hu hA)
      go_loopg [93] 12 (fun N t wr => ∃ b : Nat, b ≤ 12 ∧ N = 12 - b ∧ t = .int .i64 b ∧ Below w4.heap.size w4 wr)
      case atStart => exact ⟨0, by omega, rfl, rfl, Below.refl _ _⟩
      case round =>
        obtain ⟨b, hb12, rfl, rfl, hbw⟩ := hrel
        have HBW := Lib.hid hbw
        clear hbw
        by_cases hlt : b < 12
        · have hltI : (b : Int) < 12 := by omega
          obtain ⟨X, cx, hx, hX⟩ := (HT.out.after HBW.out).row b hlt
          obtain ⟨Y, cy, hy, hY⟩ := (HU.out.after HBW.out).row b hlt
          have hl := (HT.out.after HBW.out).lives b hlt
          have hl2 := (HU.out.after HBW.out).lives b hlt
          have hmax := (HMX.out b)
          have HX := Lib.hid hX
          have HY := Lib.hid hY
          clear hX hY
          generalize bsAt st2 b = lb at *
          generalize hbl : lb.length = nb at *
          have HBL := Lib.hid hbl
          clear hbl
          generalize livesAt st2 b = lv at *
          go_wp2_with fail
          go_quiet ((go_at_call 37; exact Calls.quiet_of (bytes_same HBL.out hmax (HX.out.after (belowN (Below.refl _ _) _)) (HY.out.after (belowN (Below.refl _ _) _)))))
          go_wp2_with fail
          go_roundg (12 - (b + 1))
          case measure => omega
          case rel => exact ⟨b + 1, by omega, rfl, by go_num, belowN HBW.out nq⟩
        · obtain rfl : b = 12 := by omega
          clear HT HU
          have h := HH.out.after HBW.out
          clear HH
          have HH := Lib.hid h
          (try clear c0 c1 c2 c3 c4 c5 c6 c7 c8 c9 c10 c11 c12 c13)
          obtain ⟨c0, c1, c2, c3, c4, c5, c6, c7, c8, c9, c10, c11, c12, c13⟩ := h.e.cells
          clear h
          by_cases hk2 : x.pk = 2
          · have hk : (x.pk == 2) = true := by simpa using hk2
            cases hlv : livesB st2 x.pi with
            | true =>
              clear hk2
              go_wp2_with (first
                | (go_at_call 27; refine (lives_any HH.out.sto x.pi HO.out.2.1.1 HO.out.2.1.2).mono ?_; rintro e w7 ⟨rfl, rfl⟩; rw [hlv])
                | (go_at_call 32; refine (HC.out _ _ _ _ _ _ HH.out.sto (by decide)).mono ?_; rintro e w6 ⟨X, nx, cx, rfl, hz, hs, hf⟩; obtain rfl := hz rfl; have h := HH.out.wrote hf hs; clear HH; have HH := Lib.hid h; (try clear c0 c1 c2 c3 c4 c5 c6 c7 c8 c9 c10 c11 c12 c13); obtain ⟨c0, c1, c2, c3, c4, c5, c6, c7, c8, c9, c10, c11, c12, c13⟩ := h.e.cells; clear h hs hf hz))
              go_ret
              exact ⟨rfl, HH.out.e.below⟩
            | false =>
              obtain ⟨E1, E2, E3, E4, E5, E6, hd⟩ := dead_k (B := B) (g := g) (N := 0) (L := L) (by omega) HO.out.2.1 hk2 hlv
              have HD := Lib.hid hd
              obtain ⟨d1, d2, d3, d4, d5, d6⟩ := hd.2.2.2.2.2.2
              clear hk2 hd
              go_wp2_with (first
                | (go_at_call 27; refine (lives_any HH.out.sto x.pi HO.out.2.1.1 HO.out.2.1.2).mono ?_; rintro e w7 ⟨rfl, rfl⟩; rw [hlv])
                | (go_at_call 22; refine (HD.out.1 _ HH.out.sto HH.out.keys).mono ?_; rintro e w8 ⟨rfl, hb⟩; have h0 := HH.out.after hb; have h := h0.after ((Below.refl _ _).alloc (Nat.le_refl _) (.cells #[.int .i64 0, .int .i64 0, .int .i64 0] 24)); clear HH; have HH := Lib.hid h; (try clear c0 c1 c2 c3 c4 c5 c6 c7 c8 c9 c10 c11 c12 c13); obtain ⟨c0, c1, c2, c3, c4, c5, c6, c7, c8, c9, c10, c11, c12, c13⟩ := h.e.cells; clear h h0 hb)
                | (go_at_call 31; refine (HD.out.2.1 _ HH.out.sto HH.out.keys).mono ?_; rintro e w9 ⟨rfl, hb⟩; have h := HH.out.after hb; clear HH; have HH := Lib.hid h; (try clear c0 c1 c2 c3 c4 c5 c6 c7 c8 c9 c10 c11 c12 c13); obtain ⟨c0, c1, c2, c3, c4, c5, c6, c7, c8, c9, c10, c11, c12, c13⟩ := h.e.cells; clear h hb)
                | (go_at_call 28; refine (HD.out.2.2.1 _ HH.out.sto HH.out.keys).mono ?_; rintro e wa ⟨rfl, hb⟩; have h0 := HH.out.after hb; have h := h0.after ((Below.refl _ _).alloc (Nat.le_refl _) (.cells #[.int .i64 0, .int .i64 0, .int .i64 0] 24)); clear HH; have HH := Lib.hid h; (try clear c0 c1 c2 c3 c4 c5 c6 c7 c8 c9 c10 c11 c12 c13); obtain ⟨c0, c1, c2, c3, c4, c5, c6, c7, c8, c9, c10, c11, c12, c13⟩ := h.e.cells; clear h h0 hb)
                | (go_at_call 23; refine (HD.out.2.2.2.1 _ HH.out.sto HH.out.keys).mono ?_; rintro e wb ⟨rfl, hb⟩; have h := HH.out.after hb; clear HH; have HH := Lib.hid h; (try clear c0 c1 c2 c3 c4 c5 c6 c7 c8 c9 c10 c11 c12 c13); obtain ⟨c0, c1, c2, c3, c4, c5, c6, c7, c8, c9, c10, c11, c12, c13⟩ := h.e.cells; clear h hb)
                | (go_at_call 25; refine (HD.out.2.2.2.2.1 _ HH.out.sto HH.out.keys).mono ?_; rintro e wc ⟨rfl, hb⟩; have h := HH.out.after hb; clear HH; have HH := Lib.hid h; (try clear c0 c1 c2 c3 c4 c5 c6 c7 c8 c9 c10 c11 c12 c13); obtain ⟨c0, c1, c2, c3, c4, c5, c6, c7, c8, c9, c10, c11, c12, c13⟩ := h.e.cells; clear h hb)
                | (go_at_call 24; refine (HD.out.2.2.2.2.2.1 _ HH.out.sto HH.out.keys).mono ?_; rintro e wd ⟨rfl, hb⟩; have h := HH.out.after hb; clear HH; have HH := Lib.hid h; (try clear c0 c1 c2 c3 c4 c5 c6 c7 c8 c9 c10 c11 c12 c13); obtain ⟨c0, c1, c2, c3, c4, c5, c6, c7, c8, c9, c10, c11, c12, c13⟩ := h.e.cells; clear h hb)
                | (go_at_call 32; refine (HC.out _ _ _ _ _ _ HH.out.sto (by decide)).mono ?_; rintro e w6 ⟨X, nx, cx, rfl, hz, hs, hf⟩; obtain rfl := hz rfl; have h := HH.out.wrote hf hs; clear HH; have HH := Lib.hid h; (try clear c0 c1 c2 c3 c4 c5 c6 c7 c8 c9 c10 c11 c12 c13); obtain ⟨c0, c1, c2, c3, c4, c5, c6, c7, c8, c9, c10, c11, c12, c13⟩ := h.e.cells; clear h hs hf hz))
              go_ret
              exact ⟨rfl, HH.out.e.below⟩
          · have hk : (x.pk == 2) = false := by simpa using hk2
            clear hk2
            go_wp2_with (first
                | (go_at_call 27; refine (lives_any HH.out.sto x.pi HO.out.2.1.1 HO.out.2.1.2).mono ?_; rintro e w7 ⟨rfl, rfl⟩; rw [hlv])
                | (go_at_call 32; refine (HC.out _ _ _ _ _ _ HH.out.sto (by decide)).mono ?_; rintro e w6 ⟨X, nx, cx, rfl, hz, hs, hf⟩; obtain rfl := hz rfl; have h := HH.out.wrote hf hs; clear HH; have HH := Lib.hid h; (try clear c0 c1 c2 c3 c4 c5 c6 c7 c8 c9 c10 c11 c12 c13); obtain ⟨c0, c1, c2, c3, c4, c5, c6, c7, c8, c9, c10, c11, c12, c13⟩ := h.e.cells; clear h hs hf hz))
            go_ret
            exact ⟨rfl, HH.out.e.below⟩
end
end Go.Proofs.YtejhphnlickjlaaDoor.bl
namespace Go.Proofs.YtejhphnlickjlaaDoor.bl
open Go.RowKit Go.Maps Go.Sort Go.Shelf
open M ty
set_option linter.unusedVariables false
def keysA_ren : Go.Shelf.Ren := ⟨fun | 7 => 72 | 10 => 85 | n => n, fun | 23 => 104 | 26 => 3 | 3 => 3 | 28 => 116 | 0 => 0 | 27 => 115 | 33 => 55 | 4 => 4 | n => n, fun | n => n⟩
theorem keysA : Go.Proofs.SlLaysZI.n7 Tryd.prog keysA_ren where
  mixed := by kernel_rfl
  f7 := ⟨Tryd.f72.name, by kernel_rfl, Tryd.func72.trans (congrArg some (by kernel_rfl))⟩
  f10 := ⟨Tryd.f85.name, by kernel_rfl, Tryd.func85.trans (congrArg some (by kernel_rfl))⟩
  t0 := Tryd.underlying0
  a0 := Tryd.isAgg0
  z0 := Tryd.sizeOf0
  v0 := Tryd.zeroValue0
  t4 := Tryd.underlying4
  a4 := Tryd.isAgg4
  z4 := Tryd.sizeOf4
  v4 := Tryd.zeroValue4
  t23 := Tryd.underlying104
  a23 := Tryd.isAgg104
  z23 := Tryd.sizeOf104
  v23 := Tryd.zeroValue104
  t26 := Tryd.underlying3
  a26 := Tryd.isAgg3
  z26 := Tryd.sizeOf3
  v26 := Tryd.zeroValue3
  t27 := Tryd.underlying115
  a27 := Tryd.isAgg115
  z27 := Tryd.sizeOf115
  v27 := Tryd.zeroValue115
  t28 := Tryd.underlying116
  a28 := Tryd.isAgg116
  z28 := Tryd.sizeOf116
  v28 := Tryd.zeroValue116
  t33 := Tryd.underlying55
  a33 := Tryd.isAgg55
  z33 := Tryd.sizeOf55
  v33 := Tryd.zeroValue55
def sortedA_ren : Go.Shelf.Ren := ⟨fun | 6 => 71 | 8 => 83 | 9 => 84 | 11 => 90 | 13 => 92 | 12 => 91 | 23 => 107 | 24 => 108 | 14 => 98 | 15 => 99 | 16 => 100 | 17 => 101 | 18 => 102 | 19 => 103 | 20 => 104 | 21 => 105 | 22 => 106 | 25 => 112 | 26 => 113 | 27 => 114 | 28 => 115 | 29 => 116 | 30 => 117 | 31 => 127 | n => n, fun | 26 => 3 | 28 => 116 | 24 => 64 | 0 => 0 | 3 => 3 | 37 => 45 | 48 => 84 | 50 => 144 | 4 => 4 | 40 => 137 | 39 => 136 | 45 => 127 | 5 => 5 | 9 => 9 | 51 => 150 | 55 => 154 | 57 => 164 | 58 => 77 | 33 => 55 | n => n, fun | n => n⟩
theorem sortedA : Go.Proofs.SlLaysZI.n6 Tryd.prog sortedA_ren where
  mixed := by kernel_rfl
  f6 := ⟨Tryd.f71.name, by kernel_rfl, Tryd.func71.trans (congrArg some (by kernel_rfl))⟩
  f8 := ⟨Tryd.f83.name, by kernel_rfl, Tryd.func83.trans (congrArg some (by kernel_rfl))⟩
  f11 := ⟨Tryd.f90.name, by kernel_rfl, Tryd.func90.trans (congrArg some (by kernel_rfl))⟩
  t0 := Tryd.underlying0
  a0 := Tryd.isAgg0
  z0 := Tryd.sizeOf0
  v0 := Tryd.zeroValue0
  t24 := Tryd.underlying64
  a24 := Tryd.isAgg64
  z24 := Tryd.sizeOf64
  v24 := Tryd.zeroValue64
  t26 := Tryd.underlying3
  a26 := Tryd.isAgg3
  z26 := Tryd.sizeOf3
  v26 := Tryd.zeroValue3
  t28 := Tryd.underlying116
  a28 := Tryd.isAgg116
  z28 := Tryd.sizeOf116
  v28 := Tryd.zeroValue116
  i26 := by kernel_rfl
def sortA_ren : Go.Shelf.Ren := ⟨fun | 5 => 84 | 8 => 92 | 7 => 91 | 19 => 107 | 20 => 108 | 10 => 98 | 11 => 99 | 12 => 100 | 13 => 101 | 14 => 102 | 15 => 103 | 16 => 104 | 17 => 105 | 18 => 106 | 30 => 112 | 31 => 113 | 32 => 114 | 33 => 115 | 34 => 116 | 35 => 117 | 40 => 127 | n => n, fun | 23 => 64 | 25 => 3 | 3 => 3 | 32 => 45 | 22 => 64 | 0 => 0 | 44 => 84 | 46 => 144 | 4 => 4 | 36 => 137 | 35 => 136 | 41 => 127 | 5 => 5 | 9 => 9 | 53 => 150 | 57 => 154 | 63 => 164 | 64 => 77 | n => n, fun | n => n⟩
theorem sortA : Go.Proofs.SlLaysM.n5 Tryd.prog sortA_ren where
  mixed := by kernel_rfl
  f5 := ⟨Tryd.f84.name, by kernel_rfl, Tryd.func84.trans (congrArg some (by kernel_rfl))⟩
  f7 := ⟨Tryd.f91.name, by kernel_rfl, Tryd.func91.trans (congrArg some (by kernel_rfl))⟩
  f8 := Tryd.func92.trans (congrArg some (by kernel_rfl))
  f10 := ⟨Tryd.f98.name, by kernel_rfl, Tryd.func98.trans (congrArg some (by kernel_rfl))⟩
  f11 := ⟨Tryd.f99.name, by kernel_rfl, Tryd.func99.trans (congrArg some (by kernel_rfl))⟩
  f12 := ⟨Tryd.f100.name, by kernel_rfl, Tryd.func100.trans (congrArg some (by kernel_rfl))⟩
  f13 := ⟨Tryd.f101.name, by kernel_rfl, Tryd.func101.trans (congrArg some (by kernel_rfl))⟩
  f14 := ⟨Tryd.f102.name, by kernel_rfl, Tryd.func102.trans (congrArg some (by kernel_rfl))⟩
  f15 := ⟨Tryd.f103.name, by kernel_rfl, Tryd.func103.trans (congrArg some (by kernel_rfl))⟩
  f16 := ⟨Tryd.f104.name, by kernel_rfl, Tryd.func104.trans (congrArg some (by kernel_rfl))⟩
  f17 := ⟨Tryd.f105.name, by kernel_rfl, Tryd.func105.trans (congrArg some (by kernel_rfl))⟩
  f18 := ⟨Tryd.f106.name, by kernel_rfl, Tryd.func106.trans (congrArg some (by kernel_rfl))⟩
  f19 := Tryd.func107.trans (congrArg some (by kernel_rfl))
  f20 := Tryd.func108.trans (congrArg some (by kernel_rfl))
  f30 := ⟨Tryd.f112.name, by kernel_rfl, Tryd.func112.trans (congrArg some (by kernel_rfl))⟩
  f31 := Tryd.func113.trans (congrArg some (by kernel_rfl))
  f32 := Tryd.func114.trans (congrArg some (by kernel_rfl))
  f33 := ⟨Tryd.f115.name, by kernel_rfl, Tryd.func115.trans (congrArg some (by kernel_rfl))⟩
  f34 := ⟨Tryd.f116.name, by kernel_rfl, Tryd.func116.trans (congrArg some (by kernel_rfl))⟩
  f35 := ⟨Tryd.f117.name, by kernel_rfl, Tryd.func117.trans (congrArg some (by kernel_rfl))⟩
  f40 := ⟨Tryd.f127.name, by kernel_rfl, Tryd.func127.trans (congrArg some (by kernel_rfl))⟩
  t0 := Tryd.underlying0
  a0 := Tryd.isAgg0
  z0 := Tryd.sizeOf0
  v0 := Tryd.zeroValue0
  t3 := Tryd.underlying3
  a3 := Tryd.isAgg3
  z3 := Tryd.sizeOf3
  v3 := Tryd.zeroValue3
  t4 := Tryd.underlying4
  a4 := Tryd.isAgg4
  z4 := Tryd.sizeOf4
  v4 := Tryd.zeroValue4
  t5 := Tryd.underlying5
  a5 := Tryd.isAgg5
  z5 := Tryd.sizeOf5
  v5 := Tryd.zeroValue5
  t9 := Tryd.underlying9
  a9 := Tryd.isAgg9
  z9 := Tryd.sizeOf9
  v9 := Tryd.zeroValue9
  t22 := Tryd.underlying64
  a22 := Tryd.isAgg64
  z22 := Tryd.sizeOf64
  v22 := Tryd.zeroValue64
  t23 := Tryd.underlying64
  a23 := Tryd.isAgg64
  z23 := Tryd.sizeOf64
  v23 := Tryd.zeroValue64
  t25 := Tryd.underlying3
  a25 := Tryd.isAgg3
  z25 := Tryd.sizeOf3
  v25 := Tryd.zeroValue3
  t32 := Tryd.underlying45
  a32 := Tryd.isAgg45
  z32 := Tryd.sizeOf45
  v32 := Tryd.zeroValue45
  t35 := Tryd.underlying136
  a35 := Tryd.isAgg136
  z35 := Tryd.sizeOf136
  v35 := Tryd.zeroValue136
  t36 := Tryd.underlying137
  a36 := Tryd.isAgg137
  z36 := Tryd.sizeOf137
  v36 := Tryd.zeroValue137
  t41 := Tryd.underlying127
  a41 := Tryd.isAgg127
  z41 := Tryd.sizeOf127
  v41 := Tryd.zeroValue127
  t44 := Tryd.underlying84
  a44 := Tryd.isAgg84
  z44 := Tryd.sizeOf84
  v44 := Tryd.zeroValue84
  t46 := Tryd.underlying144
  a46 := Tryd.isAgg144
  z46 := Tryd.sizeOf144
  v46 := Tryd.zeroValue144
  t53 := Tryd.underlying150
  a53 := Tryd.isAgg150
  z53 := Tryd.sizeOf150
  v53 := Tryd.zeroValue150
  t57 := Tryd.underlying154
  a57 := Tryd.isAgg154
  z57 := Tryd.sizeOf154
  v57 := Tryd.zeroValue154
  t63 := Tryd.underlying164
  a63 := Tryd.isAgg164
  z63 := Tryd.sizeOf164
  v63 := Tryd.zeroValue164
  t64 := Tryd.underlying77
  a64 := Tryd.isAgg77
  z64 := Tryd.sizeOf77
  v64 := Tryd.zeroValue77
/-- slices.Sort's two contracts, at the fence that asks nothing -/
theorem sortsA (m : Nat) : AnyZI.SortsIn Tryd.prog sortedA_ren Fence.wide m :=
  ⟨fun blk off cap ss W hH hblk hsz => callsIn_wide.2 (AnyM.slices_Sort_int sortA blk off cap ss W hH hblk hsz),
   fun p cap W => callsIn_wide.2 (AnyM.slices_Sort_int_none sortA p cap W)⟩
section
variable {w W : World} {B g N : Nat} {st : St} {L : Lay}
/-- the builtin clear over the store's map -/
theorem clear_sto (h : Sto w B g N st L) : ∃ w', (∀ ty, (Builtin.clear_ #[104] ty #[.map (some L.gm)]).run Tryd.prog w = .ok (.tuple #[]) w') ∧ Sto w' B g 0 st L ∧ Fr w w' g L st.bl.length := by
  obtain ⟨D, es, clock, hb, F, hs, hD⟩ := h.map
  have hset := MapKept.heap_set (o' := .map #[] clock) hb
  have hrun : ∀ ty, (Builtin.clear_ #[104] ty #[.map (some L.gm)]).run Tryd.prog w = .ok (.tuple #[]) (w.putObj L.gm (.map #[] clock)) := fun ty => by
    simp [Builtin.clear_, run_underlying Tryd.underlying104, MapKept.run_getObj_map hb, MapKept.run_setObj_map _ hb, Result.andThen]
    try rfl
  refine ⟨_, hrun, ?_, (Fr.refl w g L st.bl.length).grown (grownBy_putObj' w L.gm _) (fun r hr => by cases hr; exact .inr (.inl rfl))⟩
  have hmap : ∀ n, (w.putObj L.gm (.map #[] clock)).ownsMap (H := Unit) Tryd.prog 3 (plainElem Tryd.prog 3) L.gm n (.map []) := fun n =>
    ⟨#[], clock, hset.1, ⟨by simp, MapKept.stamped_empty clock, by simp⟩, Nat.zero_le _, rfl⟩
  have hs2 := h.setMap (hmap (N + 1)) (grownBy_putObj' w L.gm _)
  exact { hs2 with map := ⟨_, hmap 0⟩ }
set_option maxHeartbeats 4000000 in
theorem changed_any : ChangedC := fun w B g N st L h hN => by
  obtain ⟨D, hown⟩ := h.map
  have hsz := hown.size_le
  have hmax : Maps.size D ≤ maxLen := by simp only [maxLen]; omega
  have hbytes : Maps.size D * 8 ≤ 140737488355328 := by omega
  obtain ⟨c0, c1, c2, c3⟩ := h.topc
  have hgm := hown.lt
  have HS := Lib.hid h
  refine (callsIn_wide (n := 6)).1 ?_
  have hseq : SeqGives Fence.wide 2 Tryd.prog 85 #[.pointer (some ⟨w.heap.size, 0, none⟩)] encZ (fun ss => ss.Perm (intKeys D)) (Maps.size D) (w.alloc (.cells #[.map (some L.gm)] 104)) :=
    AnyZI.keys_gives (ρ := keysA_ren) { keysA with } Fence.wide _ trivial rfl (by omega) w.heap.size L.gm N D _ (by simp) (by simp) (by
      obtain ⟨es, clock, hb, Ft, hs, hD⟩ := hown
      exact ⟨es, clock, (Below.heap_alloc _ _ L.gm hgm).trans hb, Ft, hs, hD⟩)
  have cK : ∀ mb W, CallsIn Fence.wide 5 Tryd.prog 72 #[.map mb] W fun e w' => e = .returned (.func (.func 85) #[] #[.pointer (some ⟨W.heap.size, 0, none⟩)]) ∧ w' = W.alloc (.cells #[.map mb] 104) := fun mb W => AnyZI.keys_in keysA Fence.wide 5 trivial rfl mb W
  have cS := AnyZI.sorted_in sortedA Fence.wide 5 trivial trivial trivial trivial rfl (by omega) (sortsA _) (enters_of Tryd.func84 (by kernel_rfl) rfl) 85 #[.pointer (some ⟨w.heap.size, 0, none⟩)] trivial (enters_of Tryd.func85 (by kernel_rfl) rfl) _ _ hmax hbytes _ hseq
  change CallsIn _ _ Tryd.prog 71 _ _ _ at cS
  have hfK : Fence.wide.fn 72 := trivial
  have hfS : Fence.wide.fn 71 := trivial
  refine callsIn_of_wp Tryd.func32 rfl trivial ?_ rfl
  simp only [Tryd.ntmps32, List.size_toArray, List.length_cons, List.length_nil, Nat.reduceAdd, Nat.reduceSub, Array.replicate_succ, Array.replicate_zero, List.push_toArray, List.append_toArray, List.nil_append, List.cons_append]
  gi_wp2_with (first
    | (gi_at_call 72; refine (cK _ _).mono ?_; rintro e w' ⟨rfl, rfl⟩)
    | (gi_at_call 71; refine cS.mono ?_; rintro e w' ⟨v, ss, rfl, hS, hrow, hnil, hb⟩; have hbw := ((Below.refl _ w).alloc (Nat.le_refl _) (.cells #[.map (some L.gm)] 104)).trans (hb.mono (by simp)); have h2 := HS.out.below hbw; obtain ⟨w3, hcl, h3, hf3⟩ := clear_sto h2; obtain ⟨d0, d1, d2, d3⟩ := h2.topc; have HB := Lib.hid hbw; have H3 := Lib.hid h3; have HF := Lib.hid hf3; have HR := Lib.hid hrow; have HNIL := Lib.hid hnil; have HP := Lib.hid hS; clear hb hbw h2 h3 hf3 hrow hnil hS))
  go_ret
  obtain ⟨A', c', rfl, -, -⟩ := own_form HR.out
  refine ⟨A', _, c', rfl, fun h0 => ?_, H3.out, (Fr.of_below HB.out).trans HF.out⟩
  have : (intKeys D).length = Maps.size D := by
    obtain ⟨es, clock, hb, Ft, hs, rfl⟩ := hown
    simp [intKeys, Maps.size]
  rw [HP.out.length_eq]
  omega
end
end Go.Proofs.YtejhphnlickjlaaDoor.bl
namespace Go.Proofs.YtejhphnlickjlaaDoor.bl
open Go.RowKit
open M ty
set_option linter.unusedVariables false
theorem keeps_law (A : Option Addr) (m c : Nat) (l : List Ac) (x : Ac) (w : World) (hK : KeysIn w) (hA : Rd w w.heap.size A (acs l)) (hl : l.length = m) (hO : ∀ x ∈ l, AcOk x) (hm : m + 2 < 1099511627776) (hx : AcOk x) :
    Calls Tryd.prog 7 #[.slice A m c, .agg x.cells.toArray] w fun e w' => e = .returned (.bool true) ∧ Below w.heap.size w w' := by
  refine keeps_walk (Lib.hid fun W hW => works_any W (hK.below hW.below)) (Lib.hid fun W hW => ?_) (Lib.hid changed_any) (Lib.hid hx) hK
  refine (made_any A m c l W (hK.below hW.below) ((hA.below hW.below).more hW.below.size) hl hO (by omega)).mono fun e w' ⟨h1, N, st, L, h2, h3, h4⟩ => ?_
  exact ⟨_, _, N, st, L, h1, h2.below, h2.sto, Nat.le_refl _, h2.keys, by omega⟩
end Go.Proofs.YtejhphnlickjlaaDoor.bl
