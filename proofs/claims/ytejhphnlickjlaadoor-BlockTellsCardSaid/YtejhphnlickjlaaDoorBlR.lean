/-
  The contract of Store of package block. Condition: a store stands in memory.
-/
import Derived.Test.YtejhphnlickjlaaDoorBlX
import Derived.Test.YtejhphnlickjlaaDoorBlO
import Derived.Test.YtejhphnlickjlaaDoorBlS
import Derived.Test.YtejhphnlickjlaaDoorBlC
set_option linter.unusedVariables false
set_option linter.unusedSimpArgs false
namespace Go.Proofs.YtejhphnlickjlaaDoor.bl
open Go.RowKit Go.Maps
open M ty
set_option linter.unusedVariables false
/-- the bytes of a value, n of them -/
def stB (n : Nat) (a x y : Int) : List By := (List.range n).map fun m : Nat => if a = 1 then ⟨1, x / 2 ^ (8 * m) % 256, 0, 0, 0, 0⟩ else ⟨2, m, 0, a, x, y⟩
theorem stB_length (n : Nat) (a x y : Int) : (stB n a x y).length = n := by simp [stB]
theorem stB_num {n : Nat} (x y : Int) {m : Nat} (h : m < n) : (stB n 1 x y)[m]? = some ⟨1, x / 2 ^ (8 * m) % 256, 0, 0, 0, 0⟩ := by simp [stB, List.getElem?_range h]
theorem stB_ptr {n : Nat} {a : Int} (ha : a ≠ 1) (x y : Int) {m : Nat} (h : m < n) : (stB n a x y)[m]? = some ⟨2, m, 0, a, x, y⟩ := by simp [stB, List.getElem?_range h, ha]
def WidthQ (w : World) (k i o a x y : Int) (s : ByteArray) (n : Nat) : Prop := ∀ W, EnvQ w W k i o a x y → Calls Tryd.prog 58 #[.string s] W fun e w' => e = .returned (.int .i64 n) ∧ EnvQ w w' k i o a x y
def FitsQ (w : World) (k i o a x y : Int) (s : ByteArray) (b : Bool) : Prop := ∀ W, EnvQ w W k i o a x y → Calls Tryd.prog 65 #[.string s, .agg #[.int .i64 a, .int .i64 x, .int .i64 y]] W fun e w' => e = .returned (.bool b) ∧ EnvQ w w' k i o a x y
theorem and255 (v : Int) : bits .and .i64 v 255 = v % 256 := by
  show IntKind.i64.wrap ((BitVec.ofInt 64 v &&& BitVec.ofInt 64 255).toNat : Int) = _
  have h255 : (BitVec.ofInt 64 255).toNat = 255 := by decide
  have h (n : Nat) : n &&& 255 = n % 256 := Nat.and_two_pow_sub_one_eq_mod n 8
  rw [BitVec.toNat_and, h255, h, BitVec.toNat_ofInt, IntKind.wrap_i64]
  omega
/-- a value's variable -/
def VarAt (W : World) (p : Nat) (a x y : Int) : Prop := W.heap[p]? = some (.cells #[.int .i64 a, .int .i64 x, .int .i64 y] 24 (0, 0))
theorem VarAt.cells {W : World} {p : Nat} {a x y : Int} (h : VarAt W p a x y) : W.cell? ⟨p, 0, none⟩ = some (.int .i64 a) ∧ W.cell? ⟨p, 1, none⟩ = some (.int .i64 x) ∧ W.cell? ⟨p, 2, none⟩ = some (.int .i64 y) :=
  ⟨Go.Joins.cell_of_block h 0, Go.Joins.cell_of_block h 1, Go.Joins.cell_of_block h 2⟩
section
variable {w W : World} {B g N : Nat} {st : St} {L : Lay} {k i o a x y : Int} {s : ByteArray} {n : Nat}
set_option maxRecDepth 20000 in
set_option maxHeartbeats 3200000 in
theorem store_num (h : Hid (Sto w B g N st L)) (hN : N < 1099511627776) {j : Nat} {b : Bk} (HJ : Hid (st.bl[j]? = some b)) {q cap : Nat} (hn : ((n : Int) == 0) = false) (hn1 : ¬ (n : Int) = 0) (hn4 : n ≤ 4) (HL : Hid (q + n ≤ b.bs.length ∧ b.bs.length ≤ 131072)) (hk : (b.kind == 1) = false) (hwf : (Lit.int .i64 i).wf = true)
    (hr : Int.tmod o n = 0) (hq : q ≤ 131072) (HW : Hid (WidthQ w k i o 1 x y s n)) (HF : Hid (FitsQ w k i o 1 x y s true))
    (HR : Hid (FindQ w g k i o 1 x y k i o n (L.pb j) (.slice (some ⟨L.py j, q * 6, none⟩) n cap) (L.pb j) b.kind)) :
    Calls Tryd.prog 25 #[.pointer (some ⟨g, 0, none⟩), .agg #[.int .i64 k, .int .i64 i, .int .i64 o], .string s, .agg #[.int .i64 1, .int .i64 x, .int .i64 y]] w fun e w' => e = .returned (.int .i64 0) ∧ Sto w' B g (N + 1) (st.put j q (stB n 1 x y)) L ∧ Fr w w' g L (st.put j q (stB n 1 x y)).bl.length := by
  have hkey : keyOf Tryd.prog 3 (.int .i64 i) = some (.int .i64 i) := keyOf_int_mk Tryd.underlying3 hwf
  go_enter Tryd.func25, Tryd.ntmps25
  go_wp2_with (first
    | (go_at_call 58; refine (HW.out _ (EnvQ.new w k i o 1 x y)).mono ?_; rintro e w1 ⟨rfl, h1⟩; obtain ⟨c0, c1, c2, c3, c4, c5⟩ := h1.cells; have H1 := Lib.hid h1; clear h1)
    | (go_at_call 65; refine (HF.out _ H1.out).mono ?_; rintro e w2 ⟨rfl, h2⟩; clear c0 c1 c2 c3 c4 c5; obtain ⟨c0, c1, c2, c3, c4, c5⟩ := h2.cells; have H2 := Lib.hid h2; clear h2)
    | (go_at_call 59; refine (HR.out _ H2.out).mono ?_; rintro e w3 ⟨rfl, h3, cc⟩; clear c0 c1 c2 c3 c4 c5; obtain ⟨c0, c1, c2, c3, c4, c5⟩ := h3.cells; have H3 := Lib.hid h3; clear h3))
  go_loopw [51] (fun t wr => ∃ m : Nat, m ≤ n ∧ t = .int .i64 m ∧ Wk w wr B g N (st.put j q ((stB n 1 x y).take m)) L k i o ∧ VarAt wr (w.heap.size + 1) 1 x y) (fun t _ => n - (intOf t).toNat)
  case atStart => exact ⟨0, by omega, rfl, by simpa [put_nil] using Wk.of h.out H3.out.below H3.out.p, H3.out.q⟩
  case round =>
    obtain ⟨m, hm, rfl, hw, hv⟩ := hrel
    clear c0 c1 c2 c3 c4 c5 cc
    by_cases hlt : m < n
    · obtain ⟨c0, c1, c2⟩ := hv.cells
      have hz : q + m < b.bs.length := by have := HL.out.1; omega
      have HB : Hid ((st.put j q ((stB n 1 x y).take m)).bl[j]? = some { b with bs := putB b.bs q ((stB n 1 x y).take m) }) := Lib.hid (put_look HJ.out q _)
      have HS : Hid (q + m < (putB b.bs q ((stB n 1 x y).take m)).length) := Lib.hid (by rw [putB_length (by rw [List.length_take, stB_length]; omega)]; exact hz)
      have hw1 : wrap64 (8 * (m : Int)) = 8 * (m : Int) := IntWalk.wrap64_in _ (by omega)
      have hw2 : IntKind.i64.wrap (8 * (m : Int)) = 8 * (m : Int) := wrapIn (by omega) (by omega)
      have H0 := Lib.hid hw
      have HV := Lib.hid hv
      clear hw hv
      go_wp2_with (first
        | ((with_reducible change wpList _ _ _ ({ dst := _, op := .store 54 (.tmp 59) _, type := _, pos := _, after := _, guard := _ } :: _) _ _); refine wpList_byte rfl (.tmp 59) (.tmp 58) rfl H0.out HB.out (p := q * 6 + m * 6) (by omega) HS.out ⟨2, m, 0, 1, x, y⟩ rfl rfl ?_; intro w4 h4 ho4; have H4 := Lib.hid h4; have HV4 : Hid (VarAt w4 (w.heap.size + 1) 1 x y) := Lib.hid ((ho4 _ (by have := HJ.out; have := h4.py j _ (put_look HB.out (q + m) _); omega)).trans HV.out); clear h4 ho4 c0 c1 c2; obtain ⟨c0, c1, c2⟩ := HV4.out.cells)
        | ((with_reducible change wpList _ _ _ ({ dst := _, op := .store 54 (.tmp 72) _, type := _, pos := _, after := _, guard := _ } :: _) _ _); refine wpList_byte rfl (.tmp 72) (.tmp 71) rfl H4.out (put_look HB.out (q + m) _) (p := q * 6 + m * 6) (q := q + m) (by omega) (by simp only; rw [putB_length (by simp only [List.length_singleton]; exact HS.out)]; exact HS.out) ⟨1, bits .and .i64 (x / 2 ^ (8 * m)) 255, 0, 0, 0, 0⟩ rfl rfl ?_; intro w5 h5 ho5; have H5 := Lib.hid h5; have HV5 : Hid (VarAt w5 (w.heap.size + 1) 1 x y) := Lib.hid ((ho5 _ (by have := HJ.out; have := h5.py j _ (put_look (put_look HB.out (q + m) _) (q + m) _); omega)).trans HV4.out); clear h5 ho5))
      go_roundw
      case rel =>
        refine ⟨m + 1, by omega, by go_num, ?_, HV5.out⟩
        have h5 := H5.out
        rw [and255, put_put HB.out HS.out] at h5
        rwa [put_succ HJ.out (stB_num x y hlt) (by rw [stB_length]; exact HL.out.1)] at h5
      case measure => simp [intOf]; omega
    · obtain rfl : m = n := by omega
      rw [show (stB m 1 x y).take m = stB m 1 x y from List.take_of_length_le (by rw [stB_length]; exact Nat.le_refl _)] at hw
      have H3 := Lib.hid hw.drew
      clear hw hv
      obtain ⟨c0, c1, c2, c3⟩ := H3.out.sto.topc
      obtain ⟨v0, v1, v2⟩ := H3.out.vv
      obtain ⟨D, hD⟩ := H3.out.sto.map
      obtain ⟨cc, hrun, hat, hwc⟩ := hD.lookup_int key_law Tryd.underlying104 Tryd.underlying3 (zero_int _) hkey
      have HD := Lib.hid hD
      clear hD hat hwc
      go_wp2_with fail
      go_still_tail 8, (by kernel_rfl)
      change wpList _ _ _ _ _ wr.drew
      go_wp2_with (first
        | (at_mapUpdate; refine wpList_mapUpdate_own _ rfl _ _ _ 104 rfl 3 3 key_law Tryd.underlying104 _ L.gm N D rfl HD.out (by simp only [maxLen]; omega) _ _ _ rfl rfl hkey _ [] (plainElem_int Tryd.underlying3 (wrap_i64_wf _)) ?_; intro w4 hown4 hgrow4; have H4 := Lib.hid (H3.out.setMap hown4 hgrow4); clear hown4 hgrow4))
      go_ret
      exact ⟨rfl, H4.out.sto, H4.out.fr⟩
set_option maxRecDepth 20000 in
set_option maxHeartbeats 3200000 in
theorem store_ptr (h : Hid (Sto w B g N st L)) (hN : N < 1099511627776) {j : Nat} {b : Bk} (HJ : Hid (st.bl[j]? = some b)) {q cap : Nat} (hn : ((n : Int) == 0) = false) (hn1 : ¬ (n : Int) = 0) (hn4 : n ≤ 4) (HL : Hid (q + n ≤ b.bs.length ∧ b.bs.length ≤ 131072)) (hk : (b.kind == 1) = false) (hwf : (Lit.int .i64 i).wf = true)
    (ha : (a == 1) = false) (hr : Int.tmod o n = 0) (hq : q ≤ 131072) (HW : Hid (WidthQ w k i o a x y s n)) (HF : Hid (FitsQ w k i o a x y s true))
    (HR : Hid (FindQ w g k i o a x y k i o n (L.pb j) (.slice (some ⟨L.py j, q * 6, none⟩) n cap) (L.pb j) b.kind)) :
    Calls Tryd.prog 25 #[.pointer (some ⟨g, 0, none⟩), .agg #[.int .i64 k, .int .i64 i, .int .i64 o], .string s, .agg #[.int .i64 a, .int .i64 x, .int .i64 y]] w fun e w' => e = .returned (.int .i64 0) ∧ Sto w' B g (N + 1) (st.put j q (stB n a x y)) L ∧ Fr w w' g L (st.put j q (stB n a x y)).bl.length := by
  have hkey : keyOf Tryd.prog 3 (.int .i64 i) = some (.int .i64 i) := keyOf_int_mk Tryd.underlying3 hwf
  go_enter Tryd.func25, Tryd.ntmps25
  go_wp2_with (first
    | (go_at_call 58; refine (HW.out _ (EnvQ.new w k i o a x y)).mono ?_; rintro e w1 ⟨rfl, h1⟩; obtain ⟨c0, c1, c2, c3, c4, c5⟩ := h1.cells; have H1 := Lib.hid h1; clear h1)
    | (go_at_call 65; refine (HF.out _ H1.out).mono ?_; rintro e w2 ⟨rfl, h2⟩; clear c0 c1 c2 c3 c4 c5; obtain ⟨c0, c1, c2, c3, c4, c5⟩ := h2.cells; have H2 := Lib.hid h2; clear h2)
    | (go_at_call 59; refine (HR.out _ H2.out).mono ?_; rintro e w3 ⟨rfl, h3, cc⟩; clear c0 c1 c2 c3 c4 c5; obtain ⟨c0, c1, c2, c3, c4, c5⟩ := h3.cells; have H3 := Lib.hid h3; clear h3))
  go_loopw [51] (fun t wr => ∃ m : Nat, m ≤ n ∧ t = .int .i64 m ∧ Wk w wr B g N (st.put j q ((stB n a x y).take m)) L k i o ∧ VarAt wr (w.heap.size + 1) a x y) (fun t _ => n - (intOf t).toNat)
  case atStart => exact ⟨0, by omega, rfl, by simpa [put_nil] using Wk.of h.out H3.out.below H3.out.p, H3.out.q⟩
  case round =>
    obtain ⟨m, hm, rfl, hw, hv⟩ := hrel
    clear c0 c1 c2 c3 c4 c5 cc
    by_cases hlt : m < n
    · obtain ⟨c0, c1, c2⟩ := hv.cells
      have hz : q + m < b.bs.length := by have := HL.out.1; omega
      have HB : Hid ((st.put j q ((stB n a x y).take m)).bl[j]? = some { b with bs := putB b.bs q ((stB n a x y).take m) }) := Lib.hid (put_look HJ.out q _)
      have HS : Hid (q + m < (putB b.bs q ((stB n a x y).take m)).length) := Lib.hid (by rw [putB_length (by rw [List.length_take, stB_length]; omega)]; exact hz)
      have hw1 : wrap64 (8 * (m : Int)) = 8 * (m : Int) := IntWalk.wrap64_in _ (by omega)
      have hw2 : IntKind.i64.wrap (8 * (m : Int)) = 8 * (m : Int) := wrapIn (by omega) (by omega)
      have H0 := Lib.hid hw
      have HV := Lib.hid hv
      clear hw hv
      go_wp2_with (first
        | ((with_reducible change wpList _ _ _ ({ dst := _, op := .store 54 (.tmp 59) _, type := _, pos := _, after := _, guard := _ } :: _) _ _); refine wpList_byte rfl (.tmp 59) (.tmp 58) rfl H0.out HB.out (p := q * 6 + m * 6) (by omega) HS.out ⟨2, m, 0, a, x, y⟩ rfl rfl ?_; intro w4 h4 ho4; have H4 := Lib.hid h4; have HV4 : Hid (VarAt w4 (w.heap.size + 1) a x y) := Lib.hid ((ho4 _ (by have := HJ.out; have := h4.py j _ (put_look HB.out (q + m) _); omega)).trans HV.out); clear h4 ho4 c0 c1 c2; obtain ⟨c0, c1, c2⟩ := HV4.out.cells))
      go_roundw
      case rel =>
        refine ⟨m + 1, by omega, by go_num, ?_, HV4.out⟩
        have h5 := H4.out
        rwa [put_succ HJ.out (stB_ptr (by simpa using ha) x y hlt) (by rw [stB_length]; exact HL.out.1)] at h5
      case measure => simp [intOf]; omega
    · obtain rfl : m = n := by omega
      rw [show (stB m a x y).take m = stB m a x y from List.take_of_length_le (by rw [stB_length]; exact Nat.le_refl _)] at hw
      have H3 := Lib.hid hw.drew
      clear hw hv
      obtain ⟨c0, c1, c2, c3⟩ := H3.out.sto.topc
      obtain ⟨v0, v1, v2⟩ := H3.out.vv
      obtain ⟨D, hD⟩ := H3.out.sto.map
      obtain ⟨cc, hrun, hat, hwc⟩ := hD.lookup_int key_law Tryd.underlying104 Tryd.underlying3 (zero_int _) hkey
      have HD := Lib.hid hD
      clear hD hat hwc
      go_wp2_with fail
      go_still_tail 8, (by kernel_rfl)
      change wpList _ _ _ _ _ wr.drew
      go_wp2_with (first
        | (at_mapUpdate; refine wpList_mapUpdate_own _ rfl _ _ _ 104 rfl 3 3 key_law Tryd.underlying104 _ L.gm N D rfl HD.out (by simp only [maxLen]; omega) _ _ _ rfl rfl hkey _ [] (plainElem_int Tryd.underlying3 (wrap_i64_wf _)) ?_; intro w4 hown4 hgrow4; have H4 := Lib.hid (H3.out.setMap hown4 hgrow4); clear hown4 hgrow4))
      go_ret
      exact ⟨rfl, H4.out.sto, H4.out.fr⟩
set_option maxRecDepth 20000 in
theorem store_none (HW : Hid (WidthQ w k i o a x y s 0)) : Calls Tryd.prog 25 #[.pointer (some ⟨g, 0, none⟩), .agg #[.int .i64 k, .int .i64 i, .int .i64 o], .string s, .agg #[.int .i64 a, .int .i64 x, .int .i64 y]] w fun e w' => e = .returned (.int .i64 5) ∧ Below w.heap.size w w' := by
  go_enter Tryd.func25, Tryd.ntmps25
  go_wp2_with (go_at_call 58; refine (HW.out _ (EnvQ.new w k i o a x y)).mono ?_; rintro e w1 ⟨rfl, h1⟩; obtain ⟨c0, c1, c2, c3, c4, c5⟩ := h1.cells; have H1 := Lib.hid h1; clear h1)
  go_ret
  exact ⟨rfl, H1.out.below⟩
set_option maxRecDepth 20000 in
theorem store_shape (hn : ((n : Int) == 0) = false) (hn1 : ¬ (n : Int) = 0) (HW : Hid (WidthQ w k i o a x y s n)) (HF : Hid (FitsQ w k i o a x y s false)) : Calls Tryd.prog 25 #[.pointer (some ⟨g, 0, none⟩), .agg #[.int .i64 k, .int .i64 i, .int .i64 o], .string s, .agg #[.int .i64 a, .int .i64 x, .int .i64 y]] w fun e w' => e = .returned (.int .i64 5) ∧ Below w.heap.size w w' := by
  go_enter Tryd.func25, Tryd.ntmps25
  go_wp2_with (first
    | (go_at_call 58; refine (HW.out _ (EnvQ.new w k i o a x y)).mono ?_; rintro e w1 ⟨rfl, h1⟩; obtain ⟨c0, c1, c2, c3, c4, c5⟩ := h1.cells; have H1 := Lib.hid h1; clear h1)
    | (go_at_call 65; refine (HF.out _ H1.out).mono ?_; rintro e w2 ⟨rfl, h2⟩; clear c0 c1 c2 c3 c4 c5; obtain ⟨c0, c1, c2, c3, c4, c5⟩ := h2.cells; have H2 := Lib.hid h2; clear h2))
  go_ret
  exact ⟨rfl, H2.out.below⟩
set_option maxRecDepth 20000 in
theorem store_err (hn : ((n : Int) == 0) = false) (hn1 : ¬ (n : Int) = 0) (HW : Hid (WidthQ w k i o a x y s n)) (HF : Hid (FitsQ w k i o a x y s true)) {E : Int} (hE : (E != 0) = true) (HR : Hid (AnyQ w g k i o a x y k i o n E)) : Calls Tryd.prog 25 #[.pointer (some ⟨g, 0, none⟩), .agg #[.int .i64 k, .int .i64 i, .int .i64 o], .string s, .agg #[.int .i64 a, .int .i64 x, .int .i64 y]] w fun e w' => e = .returned (.int .i64 E) ∧ Below w.heap.size w w' := by
  go_enter Tryd.func25, Tryd.ntmps25
  go_wp2_with (first
    | (go_at_call 58; refine (HW.out _ (EnvQ.new w k i o a x y)).mono ?_; rintro e w1 ⟨rfl, h1⟩; obtain ⟨c0, c1, c2, c3, c4, c5⟩ := h1.cells; have H1 := Lib.hid h1; clear h1)
    | (go_at_call 65; refine (HF.out _ H1.out).mono ?_; rintro e w2 ⟨rfl, h2⟩; clear c0 c1 c2 c3 c4 c5; obtain ⟨c0, c1, c2, c3, c4, c5⟩ := h2.cells; have H2 := Lib.hid h2; clear h2)
    | (go_at_call 59; refine (HR.out _ H2.out).mono ?_; rintro e w3 ⟨⟨P, S, rfl⟩, h3⟩; have H3 := Lib.hid h3; clear h3))
  go_ret
  exact ⟨rfl, H3.out.below⟩
set_option maxRecDepth 20000 in
theorem store_skew (hn : ((n : Int) == 0) = false) (hn1 : ¬ (n : Int) = 0) (HW : Hid (WidthQ w k i o a x y s n)) (HF : Hid (FitsQ w k i o a x y s true)) {p p0 : Nat} {S : Value} {kd : Int} (hr : ¬ Int.tmod o n = 0) (HR : Hid (FindQ w g k i o a x y k i o n p S p0 kd)) : Calls Tryd.prog 25 #[.pointer (some ⟨g, 0, none⟩), .agg #[.int .i64 k, .int .i64 i, .int .i64 o], .string s, .agg #[.int .i64 a, .int .i64 x, .int .i64 y]] w fun e w' => e = .returned (.int .i64 142) ∧ Below w.heap.size w w' := by
  go_enter Tryd.func25, Tryd.ntmps25
  go_wp2_with (first
    | (go_at_call 58; refine (HW.out _ (EnvQ.new w k i o a x y)).mono ?_; rintro e w1 ⟨rfl, h1⟩; obtain ⟨c0, c1, c2, c3, c4, c5⟩ := h1.cells; have H1 := Lib.hid h1; clear h1)
    | (go_at_call 65; refine (HF.out _ H1.out).mono ?_; rintro e w2 ⟨rfl, h2⟩; clear c0 c1 c2 c3 c4 c5; obtain ⟨c0, c1, c2, c3, c4, c5⟩ := h2.cells; have H2 := Lib.hid h2; clear h2)
    | (go_at_call 59; refine (HR.out _ H2.out).mono ?_; rintro e w3 ⟨rfl, h3, cc⟩; clear c0 c1 c2 c3 c4 c5; obtain ⟨c0, c1, c2, c3, c4, c5⟩ := h3.cells; have H3 := Lib.hid h3; clear h3))
  go_ret
  exact ⟨rfl, H3.out.below⟩
set_option maxRecDepth 20000 in
theorem store_text (hn : ((n : Int) == 0) = false) (hn1 : ¬ (n : Int) = 0) (HW : Hid (WidthQ w k i o a x y s n)) (HF : Hid (FitsQ w k i o a x y s true)) {p : Nat} {S : Value} (hr : Int.tmod o n = 0) (HR : Hid (FindQ w g k i o a x y k i o n p S p 1)) : Calls Tryd.prog 25 #[.pointer (some ⟨g, 0, none⟩), .agg #[.int .i64 k, .int .i64 i, .int .i64 o], .string s, .agg #[.int .i64 a, .int .i64 x, .int .i64 y]] w fun e w' => e = .returned (.int .i64 145) ∧ Below w.heap.size w w' := by
  go_enter Tryd.func25, Tryd.ntmps25
  go_wp2_with (first
    | (go_at_call 58; refine (HW.out _ (EnvQ.new w k i o a x y)).mono ?_; rintro e w1 ⟨rfl, h1⟩; obtain ⟨c0, c1, c2, c3, c4, c5⟩ := h1.cells; have H1 := Lib.hid h1; clear h1)
    | (go_at_call 65; refine (HF.out _ H1.out).mono ?_; rintro e w2 ⟨rfl, h2⟩; clear c0 c1 c2 c3 c4 c5; obtain ⟨c0, c1, c2, c3, c4, c5⟩ := h2.cells; have H2 := Lib.hid h2; clear h2)
    | (go_at_call 59; refine (HR.out _ H2.out).mono ?_; rintro e w3 ⟨rfl, h3, cc⟩; clear c0 c1 c2 c3 c4 c5; obtain ⟨c0, c1, c2, c3, c4, c5⟩ := h3.cells; have H3 := Lib.hid h3; clear h3))
  go_ret
  exact ⟨rfl, H3.out.below⟩
/-- the error of Store -/
noncomputable def storeE (st : St) (l : List Int) (k i o a x y : Int) : Int :=
  if widthT l = 0 ∨ fitsT l a x y = false then 5 else if reachE st k i o (widthT l) ≠ 0 then reachE st k i o (widthT l) else if o.tmod (widthT l) ≠ 0 then 142 else if kindOf st i = 1 then 145 else 0
theorem width_four (l : List Int) : widthT l ≤ 4 := by
  unfold widthT
  rcases YtejhphnlickjlaaDoor.T.bits_cases l with h | h | h | h <;> rw [h]
  · rw [if_neg (by simp)]; split <;> omega
  all_goals simp
theorem store_any (h : Sto w B g N st L) (hN : N < 1099511627776) (hK : KeysIn w) (hs : s.size ≤ maxLen) (k i o a x y : Int) (i0 : -9223372036854775808 ≤ i) (i1 : i ≤ 9223372036854775807) :
    Calls Tryd.prog 25 #[.pointer (some ⟨g, 0, none⟩), vT k i o, .string s, vT a x y] w fun e w' => Wrote w B g N (st.put (i - 1).toNat o.toNat (stB (widthT (T.nums s)) a x y)) L (storeE st (T.nums s) k i o a x y) e w' := by
  have h4 := width_four (T.nums s)
  have HW : Hid (WidthQ w k i o a x y s (widthT (T.nums s))) := Lib.hid (fun W hW => (width_any s W (hK.below hW.below) hs).mono fun e w' ⟨p, q⟩ => ⟨p, hW.after q⟩)
  have HF : Hid (FitsQ w k i o a x y s (fitsT (T.nums s) a x y)) := Lib.hid (fun W hW => (fits_any s a x y W).mono fun e w' ⟨p, q⟩ => ⟨p, hW.after q⟩)
  unfold storeE vT
  generalize widthT (T.nums s) = n at *
  generalize fitsT (T.nums s) a x y = f at *
  by_cases h0 : n = 0
  · subst h0
    rw [if_pos (.inl rfl)]
    exact (store_none HW).mono fun e w' x => Wrote.no (by decide) x
  · have hn : ((n : Int) == 0) = false := by simpa using h0
    have hn1 : ¬ (n : Int) = 0 := by omega
    cases f
    · rw [if_pos (.inr rfl)]
      exact (store_shape hn hn1 HW HF).mono fun e w' x => Wrote.no (by decide) x
    · rw [if_neg (by simpa using h0)]
      by_cases hE : reachE st k i o n = 0
      · rw [if_neg (fun h => h hE)]
        obtain ⟨rfl, h1, h2, o0, b, hx, hd, h3, h5⟩ := reach_zero hE
        obtain ⟨j, rfl⟩ : ∃ j : Nat, i = (j : Int) + 1 := ⟨(i - 1).toNat, by omega⟩
        have e1 : ((j : Int) + 1 - 1).toNat = j := by omega
        rw [e1] at hx ⊢
        have hm := (h.body _ b hx).2.2.2.2
        have HP := findQ (k := 2) (i := (j : Int) + 1) (o := o) (k2 := a) (i2 := x) (o2 := y) (n := n) h hx hx hd o0 (by omega) (by omega) i1
        by_cases hr : o.tmod n = 0
        · rw [if_neg (fun h => h hr)]
          have hkk : kindOf st ((j : Int) + 1) = b.kind := by unfold kindOf; rw [e1, hx]; rfl
          rw [hkk]
          by_cases hk : b.kind = 1
          · rw [if_pos hk]
            rw [hk] at HP
            exact (store_text hn hn1 HW HF hr (Lib.hid HP)).mono fun e w' x => Wrote.no (by decide) x
          · rw [if_neg hk]
            rw [sliceAt_pos (by omega) o0 (by omega)] at HP
            by_cases ha : a = 1
            · subst ha
              exact (store_num (Lib.hid h) hN (Lib.hid hx) hn hn1 h4 (Lib.hid (by omega)) (by simpa using hk) (wf_in i0 i1) hr (by omega) HW HF (Lib.hid HP)).mono fun e w' ⟨a, b, c⟩ => ⟨a, fun _ => ⟨b, c⟩, fun h0 => absurd rfl h0⟩
            · exact (store_ptr (Lib.hid h) hN (Lib.hid hx) hn hn1 h4 (Lib.hid (by omega)) (by simpa using hk) (wf_in i0 i1) (by simpa using ha) hr (by omega) HW HF (Lib.hid HP)).mono fun e w' ⟨a, b, c⟩ => ⟨a, fun _ => ⟨b, c⟩, fun h0 => absurd rfl h0⟩
        · rw [if_pos hr]
          exact (store_skew hn hn1 HW HF hr (Lib.hid HP)).mono fun e w' x => Wrote.no (by decide) x
      · rw [if_pos hE]
        exact (store_err hn hn1 HW HF (by simpa using hE) (Lib.hid (anyQ h i0 i1 (by omega)))).mono fun e w' x => Wrote.no hE x
end
end Go.Proofs.YtejhphnlickjlaaDoor.bl
