/-
  The contract of made of package catapultlaw14. Conditions: the calls' list stands in memory, its numbers and texts in their bounds; the table of keywords stands in memory.
-/
import Derived.Test.YtejhphnlickjlaaDoorBmG
import Derived.Test.YtejhphnlickjlaaDoorBlT
import Derived.Test.YtejhphnlickjlaaDoorBlO
import Derived.Test.YtejhphnlickjlaaDoorBlS
import Derived.Test.YtejhphnlickjlaaDoorMem
set_option linter.unusedVariables false
set_option linter.unusedSimpArgs false
namespace Go.Proofs.YtejhphnlickjlaaDoor.bl
open Go.RowKit
open M ty
set_option linter.unusedVariables false
/-- a call of a store -/
structure Ac where
  (kind n m pk pi po qk qi qo vk vi vo : Int) (t text : ByteArray)
def Ac.cells (x : Ac) : List Value := [.int .i64 x.kind, .int .i64 x.n, .int .i64 x.m, .int .i64 x.pk, .int .i64 x.pi, .int .i64 x.po, .int .i64 x.qk, .int .i64 x.qi, .int .i64 x.qo, .int .i64 x.vk, .int .i64 x.vi, .int .i64 x.vo, .string x.t, .string x.text]
def acs (l : List Ac) : List Value := l.flatMap Ac.cells
def In64 (x : Int) : Prop := -9223372036854775808 ≤ x ∧ x ≤ 9223372036854775807
def AcOk (x : Ac) : Prop := In64 x.n ∧ In64 x.pi ∧ In64 x.qi ∧ x.t.size ≤ maxLen
theorem acs_get : ∀ (l : List Ac) (j r : Nat) (b : Ac), l[j]? = some b → r < 14 → (acs l)[j * 14 + r]? = b.cells[r]?
  | [], j, r, b, h, _ => by simp at h
  | x :: l, 0, r, b, h, hr => by
    obtain rfl : x = b := by simpa using h
    simp only [acs, List.flatMap_cons]
    rw [List.getElem?_append_left (by simp [Ac.cells]; omega)]
    congr 1; omega
  | x :: l, j + 1, r, b, h, hr => by
    have h' : l[j]? = some b := by simpa using h
    have := acs_get l j r b h' hr
    simp only [acs, List.flatMap_cons] at this ⊢
    rw [List.getElem?_append_right (by simp [Ac.cells]; omega)]
    rw [← this]
    congr 1
    simp [Ac.cells]; omega
theorem acs_length (l : List Ac) : (acs l).length = l.length * 14 := by
  induction l with
  | nil => rfl
  | cons b r ih => simp only [acs, List.flatMap_cons, List.length_append, List.length_cons] at ih ⊢; rw [ih]; simp [Ac.cells]; omega
section
variable {w W W' : World} {B g N M : Nat} {st st' : St} {L : Lay}
theorem ac_at {A : Option Addr} {l : List Ac} (h : Rd w B A (acs l)) {k : Nat} (hk : k < l.length) : ∃ ad p x, A = some ad ∧ l[k]? = some x ∧ ad.add (k * 14) = p ∧ p.block < B ∧ w.cell? p = some (.int .i64 x.kind) ∧
  w.cell? ⟨p.block, p.off + 1, none⟩ = some (.int .i64 x.n) ∧ w.cell? ⟨p.block, p.off + 2, none⟩ = some (.int .i64 x.m) ∧ w.cell? ⟨p.block, p.off + 3, none⟩ = some (.int .i64 x.pk) ∧ w.cell? ⟨p.block, p.off + 4, none⟩ = some (.int .i64 x.pi) ∧ w.cell? ⟨p.block, p.off + 5, none⟩ = some (.int .i64 x.po) ∧ w.cell? ⟨p.block, p.off + 6, none⟩ = some (.int .i64 x.qk) ∧ w.cell? ⟨p.block, p.off + 7, none⟩ = some (.int .i64 x.qi) ∧ w.cell? ⟨p.block, p.off + 8, none⟩ = some (.int .i64 x.qo) ∧ w.cell? ⟨p.block, p.off + 9, none⟩ = some (.int .i64 x.vk) ∧ w.cell? ⟨p.block, p.off + 10, none⟩ = some (.int .i64 x.vi) ∧ w.cell? ⟨p.block, p.off + 11, none⟩ = some (.int .i64 x.vo) ∧ w.cell? ⟨p.block, p.off + 12, none⟩ = some (.string x.t) ∧ w.cell? ⟨p.block, p.off + 13, none⟩ = some (.string x.text) := by
  obtain ⟨ad, e, hb, hc⟩ := h (by intro h0; have := acs_length l; rw [h0] at this; simp at this; omega)
  have hg : l[k]? = some l[k] := List.getElem?_eq_getElem hk
  have key : ∀ (r : Nat) (v : Value), r < 14 → (l[k].cells)[r]? = some v → w.cell? ((ad.add (k * 14)).add r) = some v := fun r v hr hv => by
    rw [M.add_add]
    exact hc _ _ (by rw [acs_get l k r _ hg hr]; exact hv)
  have k0 := key 0 _ (by omega) rfl
  have e0 : (ad.add (k * 14)).add 0 = ad.add (k * 14) := rfl
  rw [e0] at k0
  exact ⟨ad, _, _, e, hg, rfl, by rw [M.block_add]; exact hb, k0, key 1 _ (by omega) rfl, key 2 _ (by omega) rfl, key 3 _ (by omega) rfl, key 4 _ (by omega) rfl, key 5 _ (by omega) rfl, key 6 _ (by omega) rfl, key 7 _ (by omega) rfl, key 8 _ (by omega) rfl, key 9 _ (by omega) rfl, key 10 _ (by omega) rfl, key 11 _ (by omega) rfl, key 12 _ (by omega) rfl, key 13 _ (by omega) rfl⟩
/-- some store stands, and the table of keywords -/
def SomeW (w W : World) (B g M : Nat) : Prop := ∃ N st L, WkN w W B g N st L ∧ st.bl.length ≤ N ∧ N ≤ M
theorem SomeW.after (h : SomeW w W B g M) (hb : Below W.heap.size W W') : SomeW w W' B g M := by
  obtain ⟨N, st, L, h1, h2, h3⟩ := h
  exact ⟨N, st, L, h1.after hb, h2, h3⟩
theorem SomeW.alloc (h : SomeW w W B g M) (x : Obj) : SomeW w (W.alloc x) B g M := h.after ((Below.refl _ _).alloc (Nat.le_refl _) _)
theorem SomeW.more {M' : Nat} (h : SomeW w W B g M) (hM : M ≤ M') : SomeW w W B g M' := by
  obtain ⟨N, st, L, h1, h2, h3⟩ := h
  exact ⟨N, st, L, h1, h2, by omega⟩
theorem SomeW.below (h : SomeW w W B g M) : Below B w W := by
  obtain ⟨N, st, L, h1, h2, h3⟩ := h
  exact h1.below
theorem some_wrote {E : Int} {e : Ending} {w' : World} (h : WkN w W B g N st L) (h2 : st.bl.length ≤ N) (h3 : N ≤ M) (hl : st'.bl.length = st.bl.length) (x : Wrote W B g N st' L E e w') : (∃ v, e = .returned (.int .i64 v)) ∧ SomeW w w' B g (M + 1) := by
  obtain ⟨x1, x2, x3⟩ := x
  refine ⟨⟨_, x1⟩, ?_⟩
  by_cases hE : E = 0
  · obtain ⟨hs, hf⟩ := x2 hE
    rw [hl] at hf
    exact ⟨N + 1, st', L, h.fr hf hs, by rw [hl]; omega, by omega⟩
  · exact ⟨N, st, L, h.after (x3 hE), h2, by omega⟩
theorem kill_s (h : SomeW w W B g M) (hM : M < 1099511627776) (x : Int) (hx : In64 x) : Calls Tryd.prog 33 #[.pointer (some ⟨g, 0, none⟩), .int .i64 x] W fun e w' => (∃ v, e = .returned (.int .i64 v)) ∧ SomeW w w' B g (M + 1) := by
  obtain ⟨N, st, L, h1, h2, h3⟩ := h
  exact (kill_any h1.sto (by omega) x hx.1 hx.2).mono fun e w' x => some_wrote h1 h2 h3 (kill_length _ _) x
theorem copy_s (h : SomeW w W B g M) (hM : M < 1099511627776) (k i o k2 i2 o2 n : Int) (hi : In64 i) (hj : In64 i2) : Calls Tryd.prog 24 #[.pointer (some ⟨g, 0, none⟩), vT k i o, vT k2 i2 o2, .int .i64 n] W fun e w' => (∃ v, e = .returned (.int .i64 v)) ∧ SomeW w w' B g (M + 1) := by
  obtain ⟨N, st, L, h1, h2, h3⟩ := h
  exact (copy_any h1.sto (by omega) k i o k2 i2 o2 n hi.1 hi.2 hj.1 hj.2).mono fun e w' x => some_wrote h1 h2 h3 (put_length _ _ _ _) x
theorem store_s (h : SomeW w W B g M) (hM : M < 1099511627776) (k i o : Int) (s : ByteArray) (a x y : Int) (hi : In64 i) (hs : s.size ≤ maxLen) : Calls Tryd.prog 25 #[.pointer (some ⟨g, 0, none⟩), vT k i o, .string s, vT a x y] W fun e w' => (∃ v, e = .returned (.int .i64 v)) ∧ SomeW w w' B g (M + 1) := by
  obtain ⟨N, st, L, h1, h2, h3⟩ := h
  exact (store_any h1.sto (by omega) h1.keys hs k i o a x y hi.1 hi.2).mono fun e w' x => some_wrote h1 h2 h3 (put_length _ _ _ _) x
theorem put_s (h : SomeW w W B g M) (hM : M < 1099511627776) (k i o : Int) (s : ByteArray) (hi : In64 i) : Calls Tryd.prog 34 #[.pointer (some ⟨g, 0, none⟩), vT k i o, .string s] W fun e w' => (∃ v, e = .returned (.int .i64 v)) ∧ SomeW w w' B g (M + 1) := by
  obtain ⟨N, st, L, h1, h2, h3⟩ := h
  exact (puts_any h1.sto (by omega) k i o hi.1 hi.2).mono fun e w' x => some_wrote h1 h2 h3 (put_length _ _ _ _) x
theorem unset_s (h : SomeW w W B g M) (hM : M < 1099511627776) (k i o n : Int) (hi : In64 i) : Calls Tryd.prog 35 #[.pointer (some ⟨g, 0, none⟩), vT k i o, .int .i64 n] W fun e w' => (∃ v, e = .returned (.int .i64 v)) ∧ SomeW w w' B g (M + 1) := by
  obtain ⟨N, st, L, h1, h2, h3⟩ := h
  exact (unset_any h1.sto (by omega) k i o n hi.1 hi.2).mono fun e w' x => some_wrote h1 h2 h3 (put_length _ _ _ _) x
theorem sctx_s (h : SomeW w W B g M) (hM : M < 1099511627776) (k i o c : Int) (hi : In64 i) : Calls Tryd.prog 36 #[.pointer (some ⟨g, 0, none⟩), vT k i o, .int .i64 c] W fun e w' => (∃ v, e = .returned (.int .i64 v)) ∧ SomeW w w' B g (M + 1) := by
  obtain ⟨N, st, L, h1, h2, h3⟩ := h
  exact (sctx_any h1.sto (by omega) k i o c hi.1 hi.2).mono fun e w' x => some_wrote h1 h2 h3 (put_length _ _ _ _) x
theorem make_s (h : SomeW w W B g M) (hM : M < 1099511627776) (n k : Int) : Calls Tryd.prog 56 #[.pointer (some ⟨g, 0, none⟩), .int .i64 n, .int .i64 k] W fun e w' => (∃ a b, e = .returned (.tuple #[.int .i64 a, .int .i64 b])) ∧ SomeW w w' B g (M + 1) := by
  obtain ⟨N, st, L, h1, h2, h3⟩ := h
  refine (make_any h1.sto (by omega) h2 n k).mono fun e w' ⟨x1, x2, x3⟩ => ⟨⟨_, _, x1⟩, ?_⟩
  by_cases hE : makeE st n k = 0
  · obtain ⟨⟨L', hs⟩, hf⟩ := x2 hE
    exact ⟨N + 1, _, L', h1.fr hf hs, by simp [St.make]; omega, by omega⟩
  · rw [x3 hE]
    exact ⟨N, st, L, h1, h2, by omega⟩
end
section
variable {w : World} {g n c : Nat} {A : Option Addr} {l : List Ac}
set_option maxRecDepth 20000 in
set_option maxHeartbeats 12800000 in
theorem made_walk (HA : Hid (Rd w w.heap.size A (acs l))) (Hl : Hid (l.length = n)) (HO : Hid (∀ x ∈ l, AcOk x)) (hn : n < 1099511627776) (HN : Hid (Calls Tryd.prog 55 #[] w fun e w' => e = .returned (.pointer (some ⟨g, 0, none⟩)) ∧ SomeW w w' w.heap.size g 0)) :
    Calls Tryd.prog 21 #[.slice A n c] w fun e w' => e = .returned (.pointer (some ⟨g, 0, none⟩)) ∧ SomeW w w' w.heap.size g n := by
  go_enter Tryd.func21, Tryd.ntmps21
  go_wp2_with (go_at_call 55; refine HN.out.mono ?_; rintro e w1 ⟨rfl, h⟩; have H := Lib.hid h; clear h)
  go_loopw [9] (fun t wr => ∃ m : Nat, m ≤ n ∧ t = .int .i64 m ∧ SomeW w wr w.heap.size g m) (fun t _ => n - (intOf t).toNat)
  case atStart => exact ⟨0, by omega, rfl, H.out⟩
  case round =>
    clear H
    obtain ⟨m, hm, rfl, hw⟩ := hrel
    by_cases hlt : m < n
    · obtain ⟨ad, p, x, rfl, hx, hp, -, a0, a1, a2, a3, a4, a5, a6, a7, a8, a9, a10, a11, a12, a13⟩ := ac_at (HA.out.below hw.below) (k := m) (by rw [Hl.out]; exact hlt)
      have HX := Lib.hid (HO.out x (List.mem_of_getElem? hx))
      have H := Lib.hid hw
      clear hx hw
      by_cases k0 : x.kind = 0
      · have KK := Lib.hid k0
        have k0 : (x.kind == 0) = true := by simpa using KK.out
        skip
        go_wp2_with (go_at_call 56; refine (make_s (H.out.alloc _) (by omega) _ _).mono ?_; rintro e w2 ⟨⟨va, vb, rfl⟩, h2⟩; have H2 := Lib.hid h2; clear h2)
        go_roundw
        case rel => exact ⟨m + 1, by omega, by go_num, H2.out⟩
        case measure => simp [intOf]; omega
      replace k0 : (x.kind == 0) = false := by simpa using k0
      by_cases k1 : x.kind = 1
      · have KK := Lib.hid k1
        have k1 : (x.kind == 1) = true := by simpa using KK.out
        skip
        go_wp2_with (go_at_call 33; refine (kill_s (H.out.alloc _) (by omega) _ HX.out.1).mono ?_; rintro e w2 ⟨⟨va, rfl⟩, h2⟩; have H2 := Lib.hid h2; clear h2)
        go_roundw
        case rel => exact ⟨m + 1, by omega, by go_num, H2.out⟩
        case measure => simp [intOf]; omega
      replace k1 : (x.kind == 1) = false := by simpa using k1
      by_cases k3 : x.kind = 3
      · have KK := Lib.hid k3
        have k3 : (x.kind == 3) = true := by simpa using KK.out
        skip
        go_wp2_with (go_at_call 25; refine (store_s (H.out.alloc _) (by omega) _ _ _ _ _ _ _ HX.out.2.1 HX.out.2.2.2).mono ?_; rintro e w2 ⟨⟨va, rfl⟩, h2⟩; have H2 := Lib.hid h2; clear h2)
        go_roundw
        case rel => exact ⟨m + 1, by omega, by go_num, H2.out⟩
        case measure => simp [intOf]; omega
      replace k3 : (x.kind == 3) = false := by simpa using k3
      by_cases k4 : x.kind = 4
      · have KK := Lib.hid k4
        have k4 : (x.kind == 4) = true := by simpa using KK.out
        skip
        go_wp2_with (go_at_call 25; refine (store_s (H.out.alloc _) (by omega) _ _ _ _ _ _ _ HX.out.2.1 HX.out.2.2.2).mono ?_; rintro e w2 ⟨⟨va, rfl⟩, h2⟩; have H2 := Lib.hid h2; clear h2)
        go_roundw
        case rel => exact ⟨m + 1, by omega, by go_num, H2.out⟩
        case measure => simp [intOf]; omega
      replace k4 : (x.kind == 4) = false := by simpa using k4
      by_cases k5 : x.kind = 5
      · have KK := Lib.hid k5
        have k5 : (x.kind == 5) = true := by simpa using KK.out
        skip
        go_wp2_with (go_at_call 24; refine (copy_s (H.out.alloc _) (by omega) _ _ _ _ _ _ _ HX.out.2.1 HX.out.2.2.1).mono ?_; rintro e w2 ⟨⟨va, rfl⟩, h2⟩; have H2 := Lib.hid h2; clear h2)
        go_roundw
        case rel => exact ⟨m + 1, by omega, by go_num, H2.out⟩
        case measure => simp [intOf]; omega
      replace k5 : (x.kind == 5) = false := by simpa using k5
      by_cases k6 : x.kind = 6
      · have KK := Lib.hid k6
        have k6 : (x.kind == 6) = true := by simpa using KK.out
        skip
        go_wp2_with (go_at_call 34; refine (put_s (H.out.alloc _) (by omega) _ _ _ _ HX.out.2.1).mono ?_; rintro e w2 ⟨⟨va, rfl⟩, h2⟩; have H2 := Lib.hid h2; clear h2)
        go_roundw
        case rel => exact ⟨m + 1, by omega, by go_num, H2.out⟩
        case measure => simp [intOf]; omega
      replace k6 : (x.kind == 6) = false := by simpa using k6
      by_cases k7 : x.kind = 7
      · have KK := Lib.hid k7
        have k7 : (x.kind == 7) = true := by simpa using KK.out
        skip
        go_wp2_with (go_at_call 35; refine (unset_s (H.out.alloc _) (by omega) _ _ _ _ HX.out.2.1).mono ?_; rintro e w2 ⟨⟨va, rfl⟩, h2⟩; have H2 := Lib.hid h2; clear h2)
        go_roundw
        case rel => exact ⟨m + 1, by omega, by go_num, H2.out⟩
        case measure => simp [intOf]; omega
      replace k7 : (x.kind == 7) = false := by simpa using k7
      by_cases k8 : x.kind = 8
      · have KK := Lib.hid k8
        have k8 : (x.kind == 8) = true := by simpa using KK.out
        skip
        go_wp2_with (go_at_call 36; refine (sctx_s (H.out.alloc _) (by omega) _ _ _ _ HX.out.2.1).mono ?_; rintro e w2 ⟨⟨va, rfl⟩, h2⟩; have H2 := Lib.hid h2; clear h2)
        go_roundw
        case rel => exact ⟨m + 1, by omega, by go_num, H2.out⟩
        case measure => simp [intOf]; omega
      replace k8 : (x.kind == 8) = false := by simpa using k8
      go_wp2_with fail
      go_roundw
      case rel => exact ⟨m + 1, by omega, by go_num, (H.out.alloc _).more (Nat.le_succ _)⟩
      case measure => simp [intOf]; omega
    · obtain rfl : m = n := by omega
      have H := Lib.hid hw
      clear hw
      go_wp2_with fail
      go_ret
      exact ⟨rfl, H.out⟩
end
end Go.Proofs.YtejhphnlickjlaaDoor.bl
