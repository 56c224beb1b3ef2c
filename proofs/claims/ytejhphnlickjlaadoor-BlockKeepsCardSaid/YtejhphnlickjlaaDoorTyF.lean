/-
  The contract of the reader of types' codes: structs, arrays, functions, what is no code. Conditions: the reader and the table of keywords stand in memory; what is read further is read as the contract says.
-/
import Derived.Test.YtejhphnlickjlaaDoorTyD
set_option linter.unusedVariables false
set_option linter.unusedSimpArgs false
namespace Go.Proofs.YtejhphnlickjlaaDoor.ty
open Go.ChangeShapes Go.WideShapes Go.RowKit
open M T
set_option linter.unusedVariables false
/-- what reading leaves: m: parameters -/
def RdB (m : Bool) (w : World) (g : Nat) (s : ByteArray) (k d dp : Nat) (b : Bool) (w' : World) : Prop :=
  ∃ (k' dp' : Nat), Rdr w' g s k' dp' ∧ w.grownBy w' (some g) ∧ k' ≤ s.size ∧ dp ≤ dp' ∧ (m = false → d ≤ dp') ∧ dp' ≤ 140000 ∧
    (b = true → Ty m (sfx s k) (sfx s k') ∨ (m = true ∧ sfx s k = 41 :: sfx s k')) ∧ (b = false → ∀ r, ¬ Ty m (sfx s k) r ∧ ¬ (m = true ∧ sfx s k = 41 :: r))
def RdS (m : Bool) (w : World) (g : Nat) (s : ByteArray) (k d dp : Nat) (e : Ending) (w' : World) : Prop := ∃ b : Bool, e = .returned (.bool b) ∧ RdB m w g s k d dp b w'
/-- reading is as the contract says, where at most n bytes are left -/
def PRead (f : FuncId) (m : Bool) (x : Nat) (g : Nat) (s : ByteArray) (n : Nat) : Prop :=
  ∀ (k d dp : Nat) (w : World), Rdr w g s k dp → KeysIn w → k ≤ s.size → s.size - k ≤ n → d + x + (s.size - k) ≤ 140000 → dp ≤ 140000 →
    Calls Tryd.prog f #[.pointer (some ⟨g, 0, none⟩), .int .i64 d] w (RdS m w g s k d dp)
theorem KeysIn.grown {w w' : World} {g : Nat} (h : KeysIn w) (hg : w.grownBy w' (some g)) (h0 : 0 < g) : KeysIn w' := fun hn => by
  obtain ⟨ad, e, hb, hc⟩ := h hn
  injection e with e
  subst e
  refine ⟨_, rfl, Nat.lt_of_lt_of_le hb hg.size, fun j u hu => ?_⟩
  have h1 := hc j u hu
  rw [show (⟨0, 0, none⟩ : Addr).add j = ⟨0, j, none⟩ from by unfold Addr.add; split <;> simp_all] at h1 ⊢
  exact hg.cell h1 (fun e => by injection e with e; exact absurd e.symm (by show ¬ g = 0; omega))
theorem Rdr.setMax {w : World} {g : Nat} {s : ByteArray} {k dp : Nat} (h : Rdr w g s k dp) (d : Nat) : Rdr (w.setCell ⟨g, 2, none⟩ (.int .i64 (max (dp : Int) (d : Int)))) g s k (max dp d) := by
  have := h.setD (max dp d)
  rwa [show ((max dp d : Nat) : Int) = max (dp : Int) (d : Int) from by omega] at this
theorem next_c (g : Nat) (s : ByteArray) (k dp : Nat) (c : Int) (r : List Int) (w : World) (h : Rdr w g s k dp) (hc : sfx s k = c :: r) (hs : s.size ≤ maxLen) :
    Calls Tryd.prog 118 #[.pointer (some ⟨g, 0, none⟩)] w fun e w' => e = .returned (.int .u8 c) ∧ ∃ q, w' = w.drewN q := by
  obtain ⟨hk, h1, _⟩ := sfx_head hc
  rw [← h1]
  exact next_yes g s k dp w h hk hs
theorem take_c (g : Nat) (s : ByteArray) (k dp : Nat) (c : Int) (r : List Int) (w : World) (h : Rdr w g s k dp) (hc : sfx s k = c :: r) (hs : s.size ≤ maxLen) :
    Calls Tryd.prog 120 #[.pointer (some ⟨g, 0, none⟩), .int .u8 c] w fun e w' => e = .returned (.bool true) ∧ Step w g s (k + 1) dp w' := by
  obtain ⟨hk, h1, _⟩ := sfx_head hc
  exact take_yes g s k dp c w h hk h1 hs
theorem base_all : ∀ n : Fin 256, (baseC ((n.val : Nat) : Int) = true → 0 ≤ Lib.indexByte [118, 99, 115, 105, 117, 106] (n.val : Nat).toUInt8) ∧ (baseC ((n.val : Nat) : Int) = false → Lib.indexByte [118, 99, 115, 105, 117, 106] (n.val : Nat).toUInt8 = -1) := by decide +kernel
theorem base_yes (c : Int) (W : World) (h0 : 0 ≤ c) (h1 : c ≤ 255) (hb : baseC c = true) :
    Calls Tryd.prog 119 #[.string ⟨#[118, 99, 115, 105, 117, 106]⟩, .int .u8 c] W fun e w' => (∃ i : Nat, e = .returned (.int .i64 i)) ∧ w' = W := by
  refine (Tryd.strings_IndexByte _ c W).mono fun e w' ⟨he, hw⟩ => ⟨?_, hw⟩
  obtain ⟨n, rfl⟩ : ∃ n : Nat, c = n := ⟨c.toNat, by omega⟩
  have h := (base_all ⟨n, by omega⟩).1 hb
  simp only at h
  rw [he]
  exact ⟨(Lib.indexByte [118, 99, 115, 105, 117, 106] n.toUInt8).toNat, by rw [Int.toNat_of_nonneg h]; rfl⟩
theorem base_no (c : Int) (W : World) (h0 : 0 ≤ c) (h1 : c ≤ 255) (hb : baseC c = false) :
    Calls Tryd.prog 119 #[.string ⟨#[118, 99, 115, 105, 117, 106]⟩, .int .u8 c] W fun e w' => e = .returned (.int .i64 (-1)) ∧ w' = W := by
  refine (Tryd.strings_IndexByte _ c W).mono fun e w' ⟨he, hw⟩ => ⟨?_, hw⟩
  obtain ⟨n, rfl⟩ : ∃ n : Nat, c = n := ⟨c.toNat, by omega⟩
  have h := (base_all ⟨n, by omega⟩).2 hb
  simp only at h
  rw [he]
  exact congrArg (fun i => Ending.returned (.int .i64 i)) h
section
variable {g : Nat} {s : ByteArray} {n : Nat} {k d dp : Nat} {w : World}
set_option maxHeartbeats 800000 in
theorem read_base (hs : s.size ≤ maxLen) (h : Rdr w g s k dp) (hk : k ≤ s.size) (hd : d + (s.size - k) ≤ 140000) (hdp : dp ≤ 140000) (c : Int) (r : List Int) (hc : sfx s k = c :: r) (hb : baseC c = true) :
    Calls Tryd.prog 109 #[.pointer (some ⟨g, 0, none⟩), .int .i64 d] w (RdS false w g s k d dp) := by
  obtain ⟨hlt, hcv, hr⟩ := sfx_head hc
  have hbd := nums_byte s c (by have : c ∈ sfx s k := by rw [hc]; simp
                                exact List.mem_of_mem_drop this)
  have HN := Lib.hid (next_c g s k (max dp d) c r (w.setCell ⟨g, 2, none⟩ (.int .i64 (max (dp : Int) (d : Int)))) (h.setMax d) hc hs)
  have HI := Lib.hid (fun W => base_yes c W hbd.1 hbd.2 hb)
  have hc0 : (c != 0) = true := by
    rw [bne_iff_ne]; rintro rfl; exact absurd hb (by decide)
  have Hfin : Hid (Ty false (sfx s k) (sfx s (k + 1))) := Lib.hid (by rw [hc, hr]; exact .base hb)
  have H := Lib.hid h
  obtain ⟨e0, e1, e2, -, f1, f2⟩ := h.cells
  clear h hc hb hcv hr
  unfold maxLen at hs
  go_enter Tryd.func109, Tryd.ntmps109
  go_wp2_with (first
    | (go_at_call 118; refine HN.out.mono ?_; rintro e w1 ⟨rfl, q, rfl⟩)
    | (go_at_call 119; refine (HI.out _).mono ?_; rintro e w2 ⟨⟨i, rfl⟩, rfl⟩))
  go_ret
  exact ⟨true, rfl, k + 1, max dp d, ((H.out.setMax d).drewN _).setK (k + 1), gb_set (gb_drewN (gb_set (World.grownBy.refl _ _) _ _) _) _ _, by omega, by omega, fun _ => by omega, by omega, fun _ => .inl Hfin.out, fun h => by cases h⟩
/-- a step, and what it leaves of the world in which reading began -/
theorem Step.at {W w' : World} {k' dp' : Nat} (h : Step W g s k' dp' w') (hg : w.grownBy W (some g)) : Rdr w' g s k' dp' ∧ w.grownBy w' (some g) := ⟨h.1, hg.trans h.2⟩
theorem RdB.back {m m' : Bool} {W : World} {k2 d2 dp2 : Nat} {b : Bool} {w' : World} (h : RdB m W g s k2 d2 dp2 b w') (hg : w.grownBy W (some g)) (hd : d ≤ dp2) (hdp : dp ≤ dp2)
    (hyes : ∀ k', Ty m (sfx s k2) (sfx s k') ∨ (m = true ∧ sfx s k2 = 41 :: sfx s k') → Ty m' (sfx s k) (sfx s k') ∨ (m' = true ∧ sfx s k = 41 :: sfx s k'))
    (hno : (∀ r, ¬ Ty m (sfx s k2) r ∧ ¬ (m = true ∧ sfx s k2 = 41 :: r)) → ∀ r, ¬ Ty m' (sfx s k) r ∧ ¬ (m' = true ∧ sfx s k = 41 :: r)) : RdB m' w g s k d dp b w' := by
  obtain ⟨k', dp', h1, h2, h3, h4, h5, h6, h7, h8⟩ := h
  exact ⟨k', dp', h1, hg.trans h2, h3, by omega, fun _ => by omega, h6, fun hb => hyes k' (h7 hb), fun hb => hno (h8 hb)⟩
theorem no_head {l : List Int} {c c' : Int} {r : List Int} (h : l = c :: r) (hne : c ≠ c') : ∀ r', l ≠ c' :: r' := by
  rintro r' rfl; injection h with h _; exact hne h.symm
theorem not_true {k : Nat} {c : Int} {r : List Int} (h : ∀ r, ¬ Ty false (sfx s k) r) : ∀ r, ¬ Ty false (sfx s k) r ∧ ¬ (false = true ∧ sfx s k = 41 :: r) := fun r => ⟨h r, fun x => by cases x.1⟩
set_option maxHeartbeats 800000 in
theorem read_ptr (hs : s.size ≤ maxLen) (hP : PRead 109 false 0 g s n) (hg0 : 0 < g) (h : Rdr w g s k dp) (hK : KeysIn w) (hk : k ≤ s.size) (hn : s.size - k ≤ n + 1) (hd : d + (s.size - k) ≤ 140000) (hdp : dp ≤ 140000) (r : List Int) (hc : sfx s k = 112 :: r) :
    Calls Tryd.prog 109 #[.pointer (some ⟨g, 0, none⟩), .int .i64 d] w (RdS false w g s k d dp) := by
  obtain ⟨hlt, hcv, hr⟩ := sfx_head hc
  have HN := Lib.hid (next_c g s k (max dp d) 112 r (w.setCell ⟨g, 2, none⟩ (.int .i64 (max (dp : Int) (d : Int)))) (h.setMax d) hc hs)
  have HI := Lib.hid (fun W => base_no 112 W (by omega) (by omega) (by decide))
  have HT := Lib.hid (fun W (hR : Rdr W g s k (max dp d)) => take_c g s k (max dp d) 112 r W hR hc hs)
  have HRec : Hid (∀ W, Rdr W g s (k + 1) (max dp d) → w.grownBy W (some g) → Calls Tryd.prog 109 #[.pointer (some ⟨g, 0, none⟩), .int .i64 ((d : Int) + 1)] W (RdS false W g s (k + 1) (d + 1) (max dp d))) := Lib.hid (fun W hR hG => by
    have := hP (k + 1) (d + 1) (max dp d) W hR (hK.grown hG hg0) (by omega) (by omega) (by omega) (by omega)
    rwa [show ((d + 1 : Nat) : Int) = (d : Int) + 1 from by omega] at this)
  have Hyes : Hid (∀ k', Ty false (sfx s (k + 1)) (sfx s k') ∨ (false = true ∧ sfx s (k + 1) = 41 :: sfx s k') → Ty false (sfx s k) (sfx s k') ∨ (false = true ∧ sfx s k = 41 :: sfx s k')) := Lib.hid (fun k' hx => by
    rcases hx with hx | hx
    · left; rw [hc, ← hr]; exact .ptr hx
    · cases hx.1)
  have Hno : Hid ((∀ r, ¬ Ty false (sfx s (k + 1)) r ∧ ¬ (false = true ∧ sfx s (k + 1) = 41 :: r)) → ∀ r, ¬ Ty false (sfx s k) r ∧ ¬ (false = true ∧ sfx s k = 41 :: r)) := Lib.hid (fun hx r' => ⟨fun ht => by
    rw [hc, ← hr] at ht
    exact (hx r').1 (ty_ptr ht), fun x => by cases x.1⟩)
  have H := Lib.hid h
  obtain ⟨e0, e1, e2, -, f1, f2⟩ := h.cells
  clear h hc hcv hr hK
  unfold maxLen at hs
  go_enter Tryd.func109, Tryd.ntmps109
  go_wp2_with (first
    | (go_at_call 118; refine HN.out.mono ?_; rintro e w1 ⟨rfl, q, rfl⟩)
    | (go_at_call 119; refine (HI.out _).mono ?_; rintro e w2 ⟨rfl, rfl⟩)
    | (go_at_call 120; refine (HT.out _ ((H.out.setMax d).drewN _)).mono ?_; rintro e w3 ⟨rfl, h3⟩; obtain ⟨h31, h32⟩ := h3.at (gb_drewN (gb_set (World.grownBy.refl w (some g)) 2 _) _); have H31 := Lib.hid h31; clear h31)
    | (go_at_call 109; refine (HRec.out _ H31.out h32).mono ?_; rintro e w4 ⟨b, rfl, h4⟩; have H4 := Lib.hid (h4.back (k := k) (d := d) (dp := dp) (m' := false) h32 (by omega) (by omega) Hyes.out Hno.out); clear h4))
  go_ret
  exact ⟨b, rfl, H4.out⟩
end
end Go.Proofs.YtejhphnlickjlaaDoor.ty
namespace Go.Proofs.YtejhphnlickjlaaDoor.ty
open Go.ChangeShapes Go.WideShapes Go.RowKit
open M T
set_option linter.unusedVariables false
/-- where reading stands now -/
def Now (w W : World) (g : Nat) (s : ByteArray) (k dp : Nat) : Prop := Rdr W g s k dp ∧ w.grownBy W (some g)
section
variable {g : Nat} {s : ByteArray} {n : Nat} {k d dp : Nat} {w W : World}
theorem Now.drewN (h : Now w W g s k dp) (q : Nat) : Now w (W.drewN q) g s k dp := ⟨h.1.drewN q, gb_drewN h.2 q⟩
theorem Now.below {W' : World} (h : Now w W g s k dp) (hb : Below W.heap.size W W') : Now w W' g s k dp := ⟨h.1.below hb, gb_below h.2 hb⟩
theorem Now.step {W' : World} {k' dp' : Nat} (h : Now w W g s k dp) (h2 : Step W g s k' dp' W') : Now w W' g s k' dp' := ⟨h2.1, h.2.trans h2.2⟩
theorem Now.start (h : Rdr w g s k dp) : Now w (w.setCell ⟨g, 2, none⟩ (.int .i64 (max (dp : Int) (d : Int)))) g s k (max dp d) := ⟨h.setMax d, gb_set (World.grownBy.refl w (some g)) 2 _⟩
theorem take_now (hs : s.size ≤ maxLen) (c : Int) (r : List Int) (hc : sfx s k = c :: r) (c' : Int) (W : World) (h0 : c' ≠ 0) (h : Now w W g s k dp) :
    Calls Tryd.prog 120 #[.pointer (some ⟨g, 0, none⟩), .int .u8 c'] W fun e w' => e = .returned (.bool (decide (c = c'))) ∧ Now w w' g s (if c = c' then k + 1 else k) dp := by
  by_cases hcc : c = c'
  · subst hcc
    rw [if_pos rfl, show decide (c = c) = true from by simp]
    exact (take_c g s k dp c r W h.1 hc hs).mono fun e w' ⟨h1, h2⟩ => ⟨h1, h.step h2⟩
  · rw [if_neg hcc, show decide (c = c') = false from by simp [hcc]]
    exact (take_no g s k dp c' W h.1 (no_head hc hcc) h0 hs).mono fun e w' ⟨h1, h2⟩ => ⟨h1, h.step h2⟩
theorem take_end (hs : s.size ≤ maxLen) (hc : sfx s k = []) (c' : Int) (W : World) (h0 : c' ≠ 0) (h : Now w W g s k dp) :
    Calls Tryd.prog 120 #[.pointer (some ⟨g, 0, none⟩), .int .u8 c'] W fun e w' => e = .returned (.bool false) ∧ Now w w' g s k dp :=
  (take_no g s k dp c' W h.1 (by intro r; rw [hc]; simp) h0 hs).mono fun e w' ⟨h1, h2⟩ => ⟨h1, h.step h2⟩
theorem rest_nums (hk : k ≤ s.size) : nums (s.extract k s.size) = sfx s k := by
  rw [nums_extract s k s.size (Nat.le_refl _), List.take_of_length_le (by rw [sfx_length]; omega)]
/-- where a byte stands next -/
theorem till_cases (hk : k ≤ s.size) (c : UInt8) : (Lib.indexByte (s.extract k s.size).data.toList c = -1 ∧ ∀ x ∈ sfx s k, x ≠ (c.toNat : Int)) ∨
    ∃ o : Nat, Lib.indexByte (s.extract k s.size).data.toList c = (o : Int) ∧ k + o < s.size ∧ sfx s k = nums (s.extract k (k + o)) ++ (c.toNat : Int) :: sfx s (k + o + 1) ∧ (∀ x ∈ nums (s.extract k (k + o)), x ≠ (c.toNat : Int)) := by
  have hge := Lib.indexByte_ge (s.extract k s.size).data.toList c
  by_cases h : Lib.indexByte (s.extract k s.size).data.toList c = -1
  · left
    refine ⟨h, ?_⟩
    have := index_none h
    rwa [rest_nums hk] at this
  · right
    obtain ⟨o, ho⟩ : ∃ o : Nat, Lib.indexByte (s.extract k s.size).data.toList c = (o : Int) := ⟨(Lib.indexByte (s.extract k s.size).data.toList c).toNat, by omega⟩
    obtain ⟨r, h1, h2, h3⟩ := index_some ho
    rw [rest_nums hk] at h1 h3
    have hsz : (s.extract k s.size).size = s.size - k := by rw [← nums_length, rest_nums hk, sfx_length]
    rw [hsz] at h2
    have e1 : nums (s.extract k (k + o)) = (sfx s k).take o := by rw [nums_extract s k (k + o) (by omega), show k + o - k = o from by omega]
    have e2 : sfx s (k + o + 1) = r := by
      have e3 : (sfx s k).drop (o + 1) = r := by
        have hl : ((sfx s k).take o ++ [(c.toNat : Int)]).length = o + 1 := by
          rw [List.length_append, List.length_take, sfx_length]; simp; omega
        have e4 : sfx s k = ((sfx s k).take o ++ [(c.toNat : Int)]) ++ r := by rw [List.append_assoc]; exact h1
        generalize (sfx s k).take o ++ [(c.toNat : Int)] = a at *
        rw [e4, ← hl, List.drop_left]
      rw [show k + o + 1 = k + (o + 1) from by omega, sfx_add, e3]
    exact ⟨o, ho, by omega, by rw [e1, e2]; exact h1, by rw [e1]; exact h3⟩
theorem till_any (hs : s.size ≤ maxLen) (hk : k ≤ s.size) (c : UInt8) (c' : Int) (hcc : (c.toNat : Int) = c') (W : World) (h : Now w W g s k dp) :
    (Lib.indexByte (s.extract k s.size).data.toList c = -1 → Calls Tryd.prog 121 #[.pointer (some ⟨g, 0, none⟩), .int .u8 c'] W fun e w' => e = .returned (.tuple #[.string ⟨#[]⟩, .bool false]) ∧ Now w w' g s k dp) ∧
    (∀ o : Nat, Lib.indexByte (s.extract k s.size).data.toList c = (o : Int) → k + o < s.size → Calls Tryd.prog 121 #[.pointer (some ⟨g, 0, none⟩), .int .u8 c'] W fun e w' => e = .returned (.tuple #[.string (s.extract k (k + o)), .bool true]) ∧ Now w w' g s (k + o + 1) dp) := by
  subst hcc
  exact ⟨fun hi => (till_no g s k dp c W h.1 hk hs hi).mono fun e w' ⟨h1, h2⟩ => ⟨h1, h.step h2⟩,
    fun o hi ho => (till_yes g s k dp o c W h.1 hk hs hi ho).mono fun e w' ⟨h1, h2⟩ => ⟨h1, h.step h2⟩⟩
/-- the end of reading, where nothing further is read -/
theorem Now.done {k' dp' : Nat} {b : Bool} (h : Now w W g s k' dp') (hk' : k' ≤ s.size) (h1 : dp ≤ dp') (h2 : d ≤ dp') (h3 : dp' ≤ 140000) (hyes : b = true → Ty false (sfx s k) (sfx s k')) (hno : b = false → ∀ r, ¬ Ty false (sfx s k) r) : RdB false w g s k d dp b W :=
  ⟨k', dp', h.1, h.2, hk', h1, fun _ => h2, h3, fun hb => .inl (hyes hb), fun hb r => ⟨hno hb r, fun x => by cases x.1⟩⟩
set_option maxHeartbeats 1600000 in
theorem read_struct (hs : s.size ≤ maxLen) (hg0 : 0 < g) (h : Rdr w g s k dp) (hK : KeysIn w) (hk : k ≤ s.size) (hd : d + (s.size - k) ≤ 140000) (hdp : dp ≤ 140000) (r : List Int) (hc : sfx s k = 83 :: r) :
    Calls Tryd.prog 109 #[.pointer (some ⟨g, 0, none⟩), .int .i64 d] w (RdS false w g s k d dp) := by
  obtain ⟨hlt, hcv, hr⟩ := sfx_head hc
  have HN := Lib.hid (next_c g s k (max dp d) 83 r (w.setCell ⟨g, 2, none⟩ (.int .i64 (max (dp : Int) (d : Int)))) (h.setMax d) hc hs)
  have HI := Lib.hid (fun W => base_no 83 W (by omega) (by omega) (by decide))
  have HT := Lib.hid (fun c' W (h0 : c' ≠ 0) (hR : Now w W g s k (max dp d)) => take_now hs 83 r hc c' W h0 hR)
  have HS := Lib.hid (Now.start (d := d) h)
  obtain ⟨e0, e1, e2, -, f1, f2⟩ := h.cells
  have HTill := Lib.hid (fun W (hR : Now w W g s (k + 1) (max dp d)) => till_any hs (by omega) 59 59 rfl W hR)
  rcases till_cases (s := s) (k := k + 1) (by omega) 59 with ⟨hi, hno⟩ | ⟨o, hi, ho, hsp, hne⟩
  · have HTl := Lib.hid (fun W hR => (HTill.out W hR).1 hi)
    have Hno : Hid (∀ r, ¬ Ty false (sfx s k) r) := Lib.hid (fun r' ht => by
      rw [hc, ← hr] at ht
      obtain ⟨w, e, hw⟩ := ty_struct ht
      exact hno 59 (by rw [e]; simp) rfl)
    clear h hc hcv hr hK hi hno HTill
    unfold maxLen at hs
    go_enter Tryd.func109, Tryd.ntmps109
    go_wp2_with (first
      | (go_at_call 118; refine HN.out.mono ?_; rintro e w1 ⟨rfl, q, rfl⟩; have h1 := HS.out.drewN q)
      | (go_at_call 119; refine (HI.out _).mono ?_; rintro e w2 ⟨rfl, rfl⟩)
      | (go_at_call 120; refine (HT.out _ _ (by decide) (by assumption)).mono ?_; rintro e w3 ⟨rfl, h3⟩; simp at h3)
      | (go_at_call 121; refine (HTl.out _ (by assumption)).mono ?_; rintro e w4 ⟨rfl, h4⟩))
    go_ret
    exact ⟨false, rfl, h4.done (by omega) (by omega) (by omega) (by omega) (fun h => by cases h) (fun _ => Hno.out)⟩
  · have HTl := Lib.hid (fun W hR => (HTill.out W hR).2 o hi ho)
    have HNm : Hid (∀ W, Now w W g s (k + 1 + o + 1) (max dp d) → Calls Tryd.prog 123 #[.string (s.extract (k + 1) (k + 1 + o))] W fun e w' => e = .returned (.bool (nameB (nums (s.extract (k + 1) (k + 1 + o))))) ∧ Now w w' g s (k + 1 + o + 1) (max dp d)) := Lib.hid (fun W hR => by
      refine (isname_any _ W (hK.grown hR.2 hg0) ?_).mono fun e w' ⟨h1, h2⟩ => ⟨h1, hR.below h2⟩
      have := nums_length (s.extract (k + 1) (k + 1 + o))
      rw [nums_extract s _ _ (by omega), List.length_take] at this
      unfold maxLen at hs ⊢
      omega)
    have Hyes : Hid (nameB (nums (s.extract (k + 1) (k + 1 + o))) = true → Ty false (sfx s k) (sfx s (k + 1 + o + 1))) := Lib.hid (fun hb => by
      rw [hc, ← hr, hsp]
      exact .struct hb)
    have Hno : Hid (nameB (nums (s.extract (k + 1) (k + 1 + o))) = false → ∀ r, ¬ Ty false (sfx s k) r) := Lib.hid (fun hb r' ht => by
      rw [hc, ← hr, hsp] at ht
      obtain ⟨w, e, hw⟩ := ty_struct ht
      obtain ⟨e2, _⟩ := split_unique (c := 59) hne (name_semi hw) e
      rw [e2, hw] at hb
      cases hb)
    generalize nameB (nums (s.extract (k + 1) (k + 1 + o))) = nb at *
    clear h hc hcv hr hK hi hsp hne HTill
    unfold maxLen at hs
    go_enter Tryd.func109, Tryd.ntmps109
    go_wp2_with (first
      | (go_at_call 118; refine HN.out.mono ?_; rintro e w1 ⟨rfl, q, rfl⟩; have h1 := HS.out.drewN q)
      | (go_at_call 119; refine (HI.out _).mono ?_; rintro e w2 ⟨rfl, rfl⟩)
      | (go_at_call 120; refine (HT.out _ _ (by decide) (by assumption)).mono ?_; rintro e w3 ⟨rfl, h3⟩; simp at h3)
      | (go_at_call 121; refine (HTl.out _ (by assumption)).mono ?_; rintro e w4 ⟨rfl, h4⟩)
      | (go_at_call 123; refine (HNm.out _ (by assumption)).mono ?_; rintro e w5 ⟨rfl, h5⟩))
    go_ret
    exact ⟨nb, rfl, h5.done (by omega) (by omega) (by omega) (by omega) Hyes.out Hno.out⟩
end
end Go.Proofs.YtejhphnlickjlaaDoor.ty
