/-
  The contract of Put of package block. Condition: a store stands in memory.
-/
import Derived.Test.YtejhphnlickjlaaDoorBlX
import Derived.Test.YtejhphnlickjlaaDoorText
set_option linter.unusedVariables false
set_option linter.unusedSimpArgs false
namespace Go.Proofs.YtejhphnlickjlaaDoor.bl
open Go.RowKit Go.Maps
open M ty
set_option linter.unusedVariables false
/-- the bytes of a context -/
def ctxB (c : Int) : List By := (List.range 64).map fun m : Nat => ⟨3, m, c, 0, 0, 0⟩
theorem ctxB_length (c : Int) : (ctxB c).length = 64 := by simp [ctxB]
theorem ctxB_get (c : Int) {m : Nat} (h : m < 64) : (ctxB c)[m]? = some ⟨3, m, c, 0, 0, 0⟩ := by simp [ctxB, List.getElem?_range h]
/-- the error of SetContext -/
def sctxE (st : St) (k i o c : Int) : Int :=
  if c < 0 then 1 else if reachE st k i o 64 ≠ 0 then reachE st k i o 64 else if o.tmod 4 ≠ 0 then 142 else if kindOf st i = 1 then 145 else 0
theorem sliceAt_pos {y m : Nat} {o n : Int} (h : o + n ≤ m) (o0 : 0 ≤ o) (n1 : 0 < n) : sliceAt y m o n = .slice (some ⟨y, o.toNat * 6, none⟩) n.toNat (m - o.toNat) := by unfold sliceAt; rw [if_neg (by omega)]
section
variable {w W : World} {B g N : Nat} {st : St} {L : Lay} {k i o c : Int}
set_option maxRecDepth 20000 in
set_option maxHeartbeats 3200000 in
theorem sctx_ok (h : Hid (Sto w B g N st L)) (hN : N < 1099511627776) (hc : ¬ c < 0) {j : Nat} {x : Bk} (HJ : Hid (st.bl[j]? = some x)) {q cap : Nat} (HL : Hid (q + 64 ≤ x.bs.length ∧ x.bs.length ≤ 131072)) (hk : (x.kind == 1) = false) (hwf : (Lit.int .i64 i).wf = true)
    (hr : Int.tmod o 4 = 0) (hq : q ≤ 131072)
    (HR : Hid (ReachW w B g N st L k i o k i o 64 (.tuple #[.pointer (some ⟨L.pb j, 0, none⟩), .slice (some ⟨L.py j, q * 6, none⟩) 64 cap, .int .i64 0]))) :
    Calls Tryd.prog 36 #[.pointer (some ⟨g, 0, none⟩), .agg #[.int .i64 k, .int .i64 i, .int .i64 o], .int .i64 c] w fun e w' => e = .returned (.int .i64 0) ∧ Sto w' B g (N + 1) (st.put j q (ctxB c)) L ∧ Fr w w' g L (st.put j q (ctxB c)).bl.length := by
  have hkey : keyOf Tryd.prog 3 (.int .i64 i) = some (.int .i64 i) := keyOf_int_mk Tryd.underlying3 hwf
  go_enter Tryd.func36, Tryd.ntmps36
  go_wp2_with (go_at_call 59; refine (HR.out _ (Wk.new h.out _ _ _)).mono ?_; rintro e w1 ⟨rfl, h1⟩; have c0 := h1.kind HJ.out; obtain ⟨v0, v1, v2⟩ := h1.vv; have H1 := Lib.hid h1; clear h1)
  go_loopw [38] (fun t wr => ∃ m : Nat, m ≤ 64 ∧ t = .int .i64 m ∧ Wk w wr B g N (st.put j q ((ctxB c).take m)) L k i o) (fun t _ => 64 - (intOf t).toNat)
  case atStart => exact ⟨0, by omega, rfl, by simpa [put_nil] using H1.out⟩
  case round =>
    obtain ⟨m, hm, rfl, hw⟩ := hrel
    clear c0 v0 v1 v2
    by_cases hlt : m < 64
    · have HS : Hid (Wk w (set6 wr (L.py j) (q * 6 + m * 6) ⟨3, m, c, 0, 0, 0⟩) B g N (st.put j q ((ctxB c).take (m + 1))) L k i o) := Lib.hid (hw.step HJ.out (by omega) (by rw [ctxB_length]; exact HL.out.1) (ctxB_get c hlt))
      obtain ⟨u0, u1, u2, u3, u4, u5, d0, d1, d2, d3, d4, d5, f0, f1, f2, f3, f4, f5⟩ := hw.six (put_look HJ.out q _) (p := q * 6 + m * 6) (q := q + m) (by omega) (by simp only; rw [putB_length (by rw [List.length_take, ctxB_length]; have := HL.out.1; omega)]; have := HL.out.1; omega)
      clear hw
      go_wp2_with fail
      go_roundw
      case rel => exact ⟨m + 1, by omega, by go_num, HS.out⟩
      case measure => simp [intOf]; omega
    · obtain rfl : m = 64 := by omega
      rw [show (ctxB c).take 64 = ctxB c from List.take_of_length_le (by rw [ctxB_length]; exact Nat.le_refl _)] at hw
      have H3 := Lib.hid hw.drew
      clear hw
      obtain ⟨c0, c1, c2, c3⟩ := H3.out.sto.topc
      obtain ⟨v0, v1, v2⟩ := H3.out.vv
      obtain ⟨D, hD⟩ := H3.out.sto.map
      obtain ⟨cc, hrun, hat, hwc⟩ := hD.lookup_int key_law Tryd.underlying104 Tryd.underlying3 (zero_int _) hkey
      have HD := Lib.hid hD
      clear hD hat hwc
      go_wp2_with fail
      go_still_tail 8, (by kernel_rfl)
      change wpList _ _ _ _ _ wr.drew
      go_wp2_with (first
        | (at_mapUpdate; refine wpList_mapUpdate_own _ rfl _ _ _ 104 rfl 3 3 key_law Tryd.underlying104 _ L.gm N D rfl HD.out (by simp only [maxLen]; omega) _ _ _ rfl rfl hkey _ [] (plainElem_int Tryd.underlying3 (wrap_i64_wf _)) ?_; intro w4 hown4 hgrow4; have H4 := Lib.hid (H3.out.setMap hown4 hgrow4); clear hown4 hgrow4))
      go_ret
      exact ⟨rfl, H4.out.sto, H4.out.fr⟩
theorem sctx_neg (hn : c < 0) : Calls Tryd.prog 36 #[.pointer (some ⟨g, 0, none⟩), .agg #[.int .i64 k, .int .i64 i, .int .i64 o], .int .i64 c] w fun e w' => e = .returned (.int .i64 1) ∧ Below w.heap.size w w' := by
  go_enter Tryd.func36, Tryd.ntmps36
  go_wp2_with fail
  go_ret
  exact ⟨rfl, (Below.refl _ _).alloc (Nat.le_refl _) _⟩
set_option maxRecDepth 20000 in
theorem sctx_err (hn : ¬ c < 0) {E : Int} (hE : (E != 0) = true) (HR : Hid (AnyB w g k i o 64 E)) : Calls Tryd.prog 36 #[.pointer (some ⟨g, 0, none⟩), .agg #[.int .i64 k, .int .i64 i, .int .i64 o], .int .i64 c] w fun e w' => e = .returned (.int .i64 E) ∧ Below w.heap.size w w' := by
  go_enter Tryd.func36, Tryd.ntmps36
  go_wp2_with (go_at_call 59; refine (HR.out _ ((Below.refl _ _).alloc (Nat.le_refl _) _)).mono ?_; rintro e w1 ⟨⟨P1, S1, rfl⟩, h1⟩; have H1 := Lib.hid h1; clear h1)
  go_ret
  exact ⟨rfl, H1.out⟩
set_option maxRecDepth 20000 in
theorem sctx_skew (hn : ¬ c < 0) {p : Nat} {S : Value} {kd : Int} (hr : ¬ Int.tmod o 4 = 0) (HR : Hid (FindE w g k i o 64 p S kd)) :
    Calls Tryd.prog 36 #[.pointer (some ⟨g, 0, none⟩), .agg #[.int .i64 k, .int .i64 i, .int .i64 o], .int .i64 c] w fun e w' => e = .returned (.int .i64 142) ∧ Below w.heap.size w w' := by
  go_enter Tryd.func36, Tryd.ntmps36
  go_wp2_with (go_at_call 59; refine (HR.out _ (Env1.new w k i o)).mono ?_; rintro e w1 ⟨rfl, h1, c0⟩; obtain ⟨v0, v1, v2⟩ := h1.vv; have H1 := Lib.hid h1; clear h1)
  go_ret
  exact ⟨rfl, H1.out.below⟩
set_option maxRecDepth 20000 in
theorem sctx_text (hn : ¬ c < 0) {p : Nat} {S : Value} (hr : Int.tmod o 4 = 0) (HR : Hid (FindE w g k i o 64 p S 1)) :
    Calls Tryd.prog 36 #[.pointer (some ⟨g, 0, none⟩), .agg #[.int .i64 k, .int .i64 i, .int .i64 o], .int .i64 c] w fun e w' => e = .returned (.int .i64 145) ∧ Below w.heap.size w w' := by
  go_enter Tryd.func36, Tryd.ntmps36
  go_wp2_with (go_at_call 59; refine (HR.out _ (Env1.new w k i o)).mono ?_; rintro e w1 ⟨rfl, h1, c0⟩; obtain ⟨v0, v1, v2⟩ := h1.vv; have H1 := Lib.hid h1; clear h1)
  go_ret
  exact ⟨rfl, H1.out.below⟩
theorem sctx_any (h : Sto w B g N st L) (hN : N < 1099511627776) (k i o c : Int) (i0 : -9223372036854775808 ≤ i) (i1 : i ≤ 9223372036854775807) :
    Calls Tryd.prog 36 #[.pointer (some ⟨g, 0, none⟩), vT k i o, .int .i64 c] w fun e w' => Wrote w B g N (st.put (i - 1).toNat o.toNat (ctxB c)) L (sctxE st k i o c) e w' := by
  unfold vT
  by_cases hn : c < 0
  · rw [show sctxE st k i o c = 1 by unfold sctxE; rw [if_pos hn]]
    exact (sctx_neg hn).mono fun e w' x => Wrote.no (by decide) x
  · by_cases hE : reachE st k i o 64 = 0
    · obtain ⟨rfl, h1, h2, o0, x, hx, hd, h3, h4⟩ := reach_zero hE
      obtain ⟨j, rfl⟩ : ∃ j : Nat, i = (j : Int) + 1 := ⟨(i - 1).toNat, by omega⟩
      have e1 : ((j : Int) + 1 - 1).toNat = j := by omega
      rw [e1] at hx ⊢
      have hm := (h.body _ x hx).2.2.2.2
      have HF := findE (n := 64) h hx hd o0 (by omega) (by omega) i1
      have hC : sctxE st 2 ((j : Int) + 1) o c = if o.tmod 4 ≠ 0 then 142 else if x.kind = 1 then 145 else 0 := by
        unfold sctxE kindOf
        rw [if_neg hn, if_neg (fun h => h hE), e1, hx]
        rfl
      rw [hC]
      by_cases hr : o.tmod 4 = 0
      · rw [if_neg (fun h => h hr)]
        by_cases hk : x.kind = 1
        · rw [if_pos hk]
          rw [hk] at HF
          exact (sctx_text hn hr (Lib.hid HF)).mono fun e w' x => Wrote.no (by decide) x
        · rw [if_neg hk]
          have HR : ReachW w B g N st L 2 ((j : Int) + 1) o 2 ((j : Int) + 1) o 64 _ := reachW i0 i1 (by omega)
          rw [reachR_ok hx hd o0 (by omega) (by omega), sliceAt_pos (by omega) o0 (by omega)] at HR
          exact (sctx_ok (Lib.hid h) hN hn (Lib.hid hx) (Lib.hid (by omega)) (by simpa using hk) (wf_in i0 i1) hr (by omega) (Lib.hid HR)).mono fun e w' ⟨a, b, c⟩ => ⟨a, fun _ => ⟨b, c⟩, fun h0 => absurd rfl h0⟩
      · rw [if_pos hr]
        exact (sctx_skew hn hr (Lib.hid HF)).mono fun e w' x => Wrote.no (by decide) x
    · rw [show sctxE st k i o c = reachE st k i o 64 by unfold sctxE; rw [if_neg hn, if_pos hE]]
      exact (sctx_err hn (by simpa using hE) (Lib.hid (anyB h i0 i1 (by omega)))).mono fun e w' x => Wrote.no hE x
end
end Go.Proofs.YtejhphnlickjlaaDoor.bl
namespace Go.Proofs.YtejhphnlickjlaaDoor.bl
open Go.RowKit Go.Maps
open M ty
set_option linter.unusedVariables false
/-- a text's bytes -/
def txtB (s : ByteArray) : List By := s.data.toList.map fun b => ⟨1, b.toNat, 0, 0, 0, 0⟩
theorem txtB_length (s : ByteArray) : (txtB s).length = s.size := by unfold txtB; rw [List.length_map, Array.length_toList]; rfl
theorem txtB_get (s : ByteArray) {m : Nat} (h : m < s.size) : (txtB s)[m]? = some ⟨1, (s[m]'h).toNat, 0, 0, 0, 0⟩ := by
  have h' : m < s.data.size := h
  unfold txtB
  rw [List.getElem?_map, List.getElem?_eq_getElem (by rw [Array.length_toList]; exact h')]
  rfl
section
variable {w W : World} {B g N : Nat} {st : St} {L : Lay} {k i o : Int} {s : ByteArray}
set_option maxRecDepth 20000 in
set_option maxHeartbeats 3200000 in
theorem puts_ok (h : Hid (Sto w B g N st L)) (hN : N < 1099511627776) {j : Nat} {b : Bk} (HJ : Hid (st.bl[j]? = some b)) {q cap : Nat} (HL : Hid (q + s.size ≤ b.bs.length ∧ b.bs.length ≤ 131072)) (hsz : s.size ≤ 131072) (hwf : (Lit.int .i64 i).wf = true)
    (hq : q ≤ 131072) (HR : Hid (ReachW w B g N st L k i o k i o s.size (.tuple #[.pointer (some ⟨L.pb j, 0, none⟩), .slice (some ⟨L.py j, q * 6, none⟩) s.size cap, .int .i64 0]))) :
    Calls Tryd.prog 34 #[.pointer (some ⟨g, 0, none⟩), .agg #[.int .i64 k, .int .i64 i, .int .i64 o], .string s] w fun e w' => e = .returned (.int .i64 0) ∧ Sto w' B g (N + 1) (st.put j q (txtB s)) L ∧ Fr w w' g L (st.put j q (txtB s)).bl.length := by
  have hkey : keyOf Tryd.prog 3 (.int .i64 i) = some (.int .i64 i) := keyOf_int_mk Tryd.underlying3 hwf
  go_enter Tryd.func34, Tryd.ntmps34
  go_wp2_with (go_at_call 59; refine (HR.out _ (Wk.new h.out _ _ _)).mono ?_; rintro e w1 ⟨rfl, h1⟩; have H1 := Lib.hid h1; clear h1)
  go_loopw [25] (fun t wr => ∃ m : Nat, m ≤ s.size ∧ t = .int .i64 m ∧ Wk w wr B g N (st.put j q ((txtB s).take m)) L k i o) (fun t _ => s.size - (intOf t).toNat)
  case atStart => exact ⟨0, by omega, rfl, by simpa [put_nil] using H1.out⟩
  case round =>
    obtain ⟨m, hm, rfl, hw⟩ := hrel
    by_cases hlt : m < s.size
    · have hz : q + m < b.bs.length := by have := HL.out.1; omega
      have HB : Hid ((st.put j q ((txtB s).take m)).bl[j]? = some { b with bs := putB b.bs q ((txtB s).take m) }) := Lib.hid (put_look HJ.out q _)
      have HS : Hid (q + m < (putB b.bs q ((txtB s).take m)).length) := Lib.hid (by rw [putB_length (by rw [List.length_take, txtB_length]; omega)]; exact hz)
      have hw8 : wrap64 ((s[m]'hlt).toNat : Int) = ((s[m]'hlt).toNat : Int) := IntWalk.wrap64_in _ (by have := UInt8.toNat_lt (s[m]'hlt); omega)
      have H0 := Lib.hid hw
      clear hw
      go_wp2_with (first
        | ((with_reducible change wpList _ _ _ ({ dst := _, op := .store 54 (.tmp 35) _, type := _, pos := _, after := _, guard := _ } :: _) _ _); refine wpList_byte rfl (.tmp 35) (.tmp 34) rfl H0.out HB.out (p := q * 6 + m * 6) (q := q + m) (by omega) HS.out ⟨1, (s[m]'hlt).toNat, 0, 0, 0, 0⟩ rfl rfl ?_; intro w4 h4 ho4; have H4 := Lib.hid h4; clear h4 ho4))
      go_roundw
      case rel =>
        refine ⟨m + 1, by omega, by go_num, ?_⟩
        have h5 := H4.out
        rwa [put_succ HJ.out (txtB_get s hlt) (by rw [txtB_length]; exact HL.out.1)] at h5
      case measure => simp [intOf]; omega
    · obtain rfl : m = s.size := by omega
      rw [show (txtB s).take s.size = txtB s from List.take_of_length_le (by rw [txtB_length]; exact Nat.le_refl _)] at hw
      have H3 := Lib.hid hw.drew
      clear hw
      obtain ⟨c0, c1, c2, c3⟩ := H3.out.sto.topc
      obtain ⟨v0, v1, v2⟩ := H3.out.vv
      obtain ⟨D, hD⟩ := H3.out.sto.map
      obtain ⟨cc, hrun, hat, hwc⟩ := hD.lookup_int key_law Tryd.underlying104 Tryd.underlying3 (zero_int _) hkey
      have HD := Lib.hid hD
      clear hD hat hwc
      go_wp2_with fail
      go_still_tail 8, (by kernel_rfl)
      change wpList _ _ _ _ _ wr.drew
      go_wp2_with (first
        | (at_mapUpdate; refine wpList_mapUpdate_own _ rfl _ _ _ 104 rfl 3 3 key_law Tryd.underlying104 _ L.gm N D rfl HD.out (by simp only [maxLen]; omega) _ _ _ rfl rfl hkey _ [] (plainElem_int Tryd.underlying3 (wrap_i64_wf _)) ?_; intro w4 hown4 hgrow4; have H4 := Lib.hid (H3.out.setMap hown4 hgrow4); clear hown4 hgrow4))
      go_ret
      exact ⟨rfl, H4.out.sto, H4.out.fr⟩
set_option maxRecDepth 20000 in
set_option maxHeartbeats 1600000 in
theorem puts_none (h : Hid (Sto w B g N st L)) (hN : N < 1099511627776) (hs : s.size = 0) (hwf : (Lit.int .i64 i).wf = true) {p : Nat} {A : Option Addr} {cap : Nat}
    (HR : Hid (ReachW w B g N st L k i o k i o 0 (.tuple #[.pointer (some ⟨p, 0, none⟩), .slice A 0 cap, .int .i64 0]))) :
    Calls Tryd.prog 34 #[.pointer (some ⟨g, 0, none⟩), .agg #[.int .i64 k, .int .i64 i, .int .i64 o], .string s] w fun e w' => e = .returned (.int .i64 0) ∧ Sto w' B g (N + 1) st L ∧ Fr w w' g L st.bl.length := by
  have hkey : keyOf Tryd.prog 3 (.int .i64 i) = some (.int .i64 i) := keyOf_int_mk Tryd.underlying3 hwf
  go_enter Tryd.func34, Tryd.ntmps34
  go_wp2_with (go_at_call 59; refine (HR.out _ (Wk.new h.out _ _ _)).mono ?_; rintro e w1 ⟨rfl, h1⟩; have H1 := Lib.hid h1; clear h1)
  have H3 := Lib.hid H1.out.drew
  obtain ⟨c0, c1, c2, c3⟩ := H3.out.sto.topc
  obtain ⟨v0, v1, v2⟩ := H3.out.vv
  obtain ⟨D, hD⟩ := H3.out.sto.map
  obtain ⟨cc, hrun, hat, hwc⟩ := hD.lookup_int key_law Tryd.underlying104 Tryd.underlying3 (zero_int _) hkey
  have HD := Lib.hid hD
  clear hD hat hwc
  refine wp_loop_rounds 1 ?_
  rw [rounds_succ]
  go_wp2_with fail
  go_still_tail 8, (by kernel_rfl)
  change wpList _ _ _ _ _ w1.drew
  go_wp2_with (first
    | (at_mapUpdate; refine wpList_mapUpdate_own _ rfl _ _ _ 104 rfl 3 3 key_law Tryd.underlying104 _ L.gm N D rfl HD.out (by simp only [maxLen]; omega) _ _ _ rfl rfl hkey _ [] (plainElem_int Tryd.underlying3 (wrap_i64_wf _)) ?_; intro w4 hown4 hgrow4; have H4 := Lib.hid (H3.out.setMap hown4 hgrow4); clear hown4 hgrow4))
  go_ret
  exact ⟨rfl, H4.out.sto, H4.out.fr⟩
set_option maxRecDepth 20000 in
theorem puts_err {E : Int} (hE : (E != 0) = true) (HR : Hid (AnyB w g k i o s.size E)) : Calls Tryd.prog 34 #[.pointer (some ⟨g, 0, none⟩), .agg #[.int .i64 k, .int .i64 i, .int .i64 o], .string s] w fun e w' => e = .returned (.int .i64 E) ∧ Below w.heap.size w w' := by
  go_enter Tryd.func34, Tryd.ntmps34
  go_wp2_with (go_at_call 59; refine (HR.out _ ((Below.refl _ _).alloc (Nat.le_refl _) _)).mono ?_; rintro e w1 ⟨⟨P1, S1, rfl⟩, h1⟩; have H1 := Lib.hid h1; clear h1)
  go_ret
  exact ⟨rfl, H1.out⟩
theorem puts_any (h : Sto w B g N st L) (hN : N < 1099511627776) (k i o : Int) (i0 : -9223372036854775808 ≤ i) (i1 : i ≤ 9223372036854775807) :
    Calls Tryd.prog 34 #[.pointer (some ⟨g, 0, none⟩), vT k i o, .string s] w fun e w' => Wrote w B g N (st.put (i - 1).toNat o.toNat (txtB s)) L (reachE st k i o s.size) e w' := by
  unfold vT
  by_cases hE : reachE st k i o s.size = 0
  · rw [hE]
    obtain ⟨rfl, h1, h2, o0, x, hx, hd, h3, h4⟩ := reach_zero hE
    obtain ⟨j, rfl⟩ : ∃ j : Nat, i = (j : Int) + 1 := ⟨(i - 1).toNat, by omega⟩
    have e1 : ((j : Int) + 1 - 1).toNat = j := by omega
    rw [e1] at hx ⊢
    have hm := (h.body _ x hx).2.2.2.2
    have HR : ReachW w B g N st L 2 ((j : Int) + 1) o 2 ((j : Int) + 1) o s.size _ := reachW i0 i1 (by omega)
    rw [reachR_ok hx hd o0 (by omega) (by omega)] at HR
    by_cases hs : s.size = 0
    · have hz : txtB s = [] := List.eq_nil_of_length_eq_zero (by rw [txtB_length]; exact hs)
      rw [hz, put_nil]
      rw [hs] at HR
      have hsl : sliceAt (L.py j) x.bs.length o ((0 : Nat) : Int) = .slice (if x.bs.length = o.toNat then some ⟨L.py j, 0, none⟩ else some ⟨L.py j, o.toNat * 6, none⟩) 0 (x.bs.length - o.toNat) := rfl
      rw [hsl] at HR
      exact (puts_none (Lib.hid h) hN hs (wf_in i0 i1) (Lib.hid HR)).mono fun e w' ⟨a, b, c⟩ => ⟨a, fun _ => ⟨b, c⟩, fun h0 => absurd rfl h0⟩
    · rw [sliceAt_pos (by omega) o0 (by omega), Int.toNat_natCast] at HR
      exact (puts_ok (Lib.hid h) hN (Lib.hid hx) (Lib.hid (by omega)) (by omega) (wf_in i0 i1) (by omega) (Lib.hid HR)).mono fun e w' ⟨a, b, c⟩ => ⟨a, fun _ => ⟨b, c⟩, fun h0 => absurd rfl h0⟩
  · exact (puts_err (by simpa using hE) (Lib.hid (anyB h i0 i1 (by omega)))).mono fun e w' x => Wrote.no hE x
end
end Go.Proofs.YtejhphnlickjlaaDoor.bl
