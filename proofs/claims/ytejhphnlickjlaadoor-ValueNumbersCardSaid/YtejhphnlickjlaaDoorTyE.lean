/-
  The contract of the reader of types' codes, case by case of the byte that comes. Conditions: the reader and the table of keywords stand in memory; what is read further is read as the contract says.
-/
import Derived.Test.YtejhphnlickjlaaDoorTyD
namespace Go.Proofs.YtejhphnlickjlaaDoor.ty
open Go.ChangeShapes Go.WideShapes Go.RowKit
open M T
set_option linter.unusedVariables false
/-- what reading leaves: m: parameters -/
def RdB (m : Bool) (w : World) (g : Nat) (s : ByteArray) (k d dp : Nat) (b : Bool) (w' : World) : Prop :=
  ∃ (k' dp' : Nat), Rdr w' g s k' dp' ∧ w.grownBy w' (some g) ∧ k' ≤ s.size ∧ dp ≤ dp' ∧ (m = false → d ≤ dp') ∧ dp' ≤ 140000 ∧
    (b = true → Ty m (sfx s k) (sfx s k') ∨ (m = true ∧ sfx s k = 41 :: sfx s k')) ∧ (b = false → ∀ r, ¬ Ty m (sfx s k) r ∧ ¬ (m = true ∧ sfx s k = 41 :: r))
def RdS (m : Bool) (w : World) (g : Nat) (s : ByteArray) (k d dp : Nat) (e : Ending) (w' : World) : Prop := ∃ b : Bool, e = .returned (.bool b) ∧ RdB m w g s k d dp b w'
/-- reading is as the contract says, where at most n bytes are left -/
def PRead (f : FuncId) (m : Bool) (x : Nat) (g : Nat) (s : ByteArray) (n : Nat) : Prop :=
  ∀ (k d dp : Nat) (w : World), Rdr w g s k dp → KeysIn w → k ≤ s.size → s.size - k ≤ n → d + x + (s.size - k) ≤ 140000 → dp ≤ 140000 →
    Calls Tryd.prog f #[.pointer (some ⟨g, 0, none⟩), .int .i64 d] w (RdS m w g s k d dp)
theorem KeysIn.grown {w w' : World} {g : Nat} (h : KeysIn w) (hg : w.grownBy w' (some g)) (h0 : 0 < g) : KeysIn w' := fun hn => by
  obtain ⟨ad, e, hb, hc⟩ := h hn
  injection e with e
  subst e
  refine ⟨_, rfl, Nat.lt_of_lt_of_le hb hg.size, fun j u hu => ?_⟩
  have h1 := hc j u hu
  rw [show (⟨0, 0, none⟩ : Addr).add j = ⟨0, j, none⟩ from by unfold Addr.add; split <;> simp_all] at h1 ⊢
  exact hg.cell h1 (fun e => by injection e with e; exact absurd e.symm (by show ¬ g = 0; omega))
theorem Rdr.setMax {w : World} {g : Nat} {s : ByteArray} {k dp : Nat} (h : Rdr w g s k dp) (d : Nat) : Rdr (w.setCell ⟨g, 2, none⟩ (.int .i64 (max (dp : Int) (d : Int)))) g s k (max dp d) := by
  have := h.setD (max dp d)
  rwa [show ((max dp d : Nat) : Int) = max (dp : Int) (d : Int) from by omega] at this
theorem next_c (g : Nat) (s : ByteArray) (k dp : Nat) (c : Int) (r : List Int) (w : World) (h : Rdr w g s k dp) (hc : sfx s k = c :: r) (hs : s.size ≤ maxLen) :
    Calls Tryd.prog 118 #[.pointer (some ⟨g, 0, none⟩)] w fun e w' => e = .returned (.int .u8 c) ∧ ∃ q, w' = w.drewN q := by
  obtain ⟨hk, h1, _⟩ := sfx_head hc
  rw [← h1]
  exact next_yes g s k dp w h hk hs
theorem take_c (g : Nat) (s : ByteArray) (k dp : Nat) (c : Int) (r : List Int) (w : World) (h : Rdr w g s k dp) (hc : sfx s k = c :: r) (hs : s.size ≤ maxLen) :
    Calls Tryd.prog 120 #[.pointer (some ⟨g, 0, none⟩), .int .u8 c] w fun e w' => e = .returned (.bool true) ∧ Step w g s (k + 1) dp w' := by
  obtain ⟨hk, h1, _⟩ := sfx_head hc
  exact take_yes g s k dp c w h hk h1 hs
theorem base_all : ∀ n : Fin 256, (baseC ((n.val : Nat) : Int) = true → 0 ≤ Lib.indexByte [118, 99, 115, 105, 117, 106] (n.val : Nat).toUInt8) ∧ (baseC ((n.val : Nat) : Int) = false → Lib.indexByte [118, 99, 115, 105, 117, 106] (n.val : Nat).toUInt8 = -1) := by decide +kernel
theorem base_yes (c : Int) (W : World) (h0 : 0 ≤ c) (h1 : c ≤ 255) (hb : baseC c = true) :
    Calls Tryd.prog 119 #[.string ⟨#[118, 99, 115, 105, 117, 106]⟩, .int .u8 c] W fun e w' => (∃ i : Nat, e = .returned (.int .i64 i)) ∧ w' = W := by
  refine (Tryd.strings_IndexByte _ c W).mono fun e w' ⟨he, hw⟩ => ⟨?_, hw⟩
  obtain ⟨n, rfl⟩ : ∃ n : Nat, c = n := ⟨c.toNat, by omega⟩
  have h := (base_all ⟨n, by omega⟩).1 hb
  simp only at h
  rw [he]
  exact ⟨(Lib.indexByte [118, 99, 115, 105, 117, 106] n.toUInt8).toNat, by rw [Int.toNat_of_nonneg h]; rfl⟩
theorem base_no (c : Int) (W : World) (h0 : 0 ≤ c) (h1 : c ≤ 255) (hb : baseC c = false) :
    Calls Tryd.prog 119 #[.string ⟨#[118, 99, 115, 105, 117, 106]⟩, .int .u8 c] W fun e w' => e = .returned (.int .i64 (-1)) ∧ w' = W := by
  refine (Tryd.strings_IndexByte _ c W).mono fun e w' ⟨he, hw⟩ => ⟨?_, hw⟩
  obtain ⟨n, rfl⟩ : ∃ n : Nat, c = n := ⟨c.toNat, by omega⟩
  have h := (base_all ⟨n, by omega⟩).2 hb
  simp only at h
  rw [he]
  exact congrArg (fun i => Ending.returned (.int .i64 i)) h
section
variable {g : Nat} {s : ByteArray} {n : Nat} {k d dp : Nat} {w : World}
set_option maxHeartbeats 800000 in
theorem read_base (hs : s.size ≤ maxLen) (h : Rdr w g s k dp) (hk : k ≤ s.size) (hd : d + (s.size - k) ≤ 140000) (hdp : dp ≤ 140000) (c : Int) (r : List Int) (hc : sfx s k = c :: r) (hb : baseC c = true) :
    Calls Tryd.prog 109 #[.pointer (some ⟨g, 0, none⟩), .int .i64 d] w (RdS false w g s k d dp) := by
  obtain ⟨hlt, hcv, hr⟩ := sfx_head hc
  have hbd := nums_byte s c (by have : c ∈ sfx s k := by rw [hc]; simp
                                exact List.mem_of_mem_drop this)
  have HN := Lib.hid (next_c g s k (max dp d) c r (w.setCell ⟨g, 2, none⟩ (.int .i64 (max (dp : Int) (d : Int)))) (h.setMax d) hc hs)
  have HI := Lib.hid (fun W => base_yes c W hbd.1 hbd.2 hb)
  have hc0 : (c != 0) = true := by
    rw [bne_iff_ne]; rintro rfl; exact absurd hb (by decide)
  have Hfin : Hid (Ty false (sfx s k) (sfx s (k + 1))) := Lib.hid (by rw [hc, hr]; exact .base hb)
  have H := Lib.hid h
  obtain ⟨e0, e1, e2, -, f1, f2⟩ := h.cells
  clear h hc hb hcv hr
  unfold maxLen at hs
  go_enter Tryd.func109, Tryd.ntmps109
  go_wp2_with (first
    | (go_at_call 118; refine HN.out.mono ?_; rintro e w1 ⟨rfl, q, rfl⟩)
    | (go_at_call 119; refine (HI.out _).mono ?_; rintro e w2 ⟨⟨i, rfl⟩, rfl⟩))
  go_ret
  exact ⟨true, rfl, k + 1, max dp d, ((H.out.setMax d).drewN _).setK (k + 1), gb_set (gb_drewN (gb_set (World.grownBy.refl _ _) _ _) _) _ _, by omega, by omega, fun _ => by omega, by omega, fun _ => .inl Hfin.out, fun h => by cases h⟩
/-- a step, and what it leaves of the world in which reading began -/
theorem Step.at {W w' : World} {k' dp' : Nat} (h : Step W g s k' dp' w') (hg : w.grownBy W (some g)) : Rdr w' g s k' dp' ∧ w.grownBy w' (some g) := ⟨h.1, hg.trans h.2⟩
theorem RdB.back {m m' : Bool} {W : World} {k2 d2 dp2 : Nat} {b : Bool} {w' : World} (h : RdB m W g s k2 d2 dp2 b w') (hg : w.grownBy W (some g)) (hd : d ≤ dp2) (hdp : dp ≤ dp2)
    (hyes : ∀ k', Ty m (sfx s k2) (sfx s k') ∨ (m = true ∧ sfx s k2 = 41 :: sfx s k') → Ty m' (sfx s k) (sfx s k') ∨ (m' = true ∧ sfx s k = 41 :: sfx s k'))
    (hno : (∀ r, ¬ Ty m (sfx s k2) r ∧ ¬ (m = true ∧ sfx s k2 = 41 :: r)) → ∀ r, ¬ Ty m' (sfx s k) r ∧ ¬ (m' = true ∧ sfx s k = 41 :: r)) : RdB m' w g s k d dp b w' := by
  obtain ⟨k', dp', h1, h2, h3, h4, h5, h6, h7, h8⟩ := h
  exact ⟨k', dp', h1, hg.trans h2, h3, by omega, fun _ => by omega, h6, fun hb => hyes k' (h7 hb), fun hb => hno (h8 hb)⟩
theorem no_head {l : List Int} {c c' : Int} {r : List Int} (h : l = c :: r) (hne : c ≠ c') : ∀ r', l ≠ c' :: r' := by
  rintro r' rfl; injection h with h _; exact hne h.symm
theorem not_true {k : Nat} {c : Int} {r : List Int} (h : ∀ r, ¬ Ty false (sfx s k) r) : ∀ r, ¬ Ty false (sfx s k) r ∧ ¬ (false = true ∧ sfx s k = 41 :: r) := fun r => ⟨h r, fun x => by cases x.1⟩
set_option maxHeartbeats 800000 in
theorem read_ptr (hs : s.size ≤ maxLen) (hP : PRead 109 false 0 g s n) (hg0 : 0 < g) (h : Rdr w g s k dp) (hK : KeysIn w) (hk : k ≤ s.size) (hn : s.size - k ≤ n + 1) (hd : d + (s.size - k) ≤ 140000) (hdp : dp ≤ 140000) (r : List Int) (hc : sfx s k = 112 :: r) :
    Calls Tryd.prog 109 #[.pointer (some ⟨g, 0, none⟩), .int .i64 d] w (RdS false w g s k d dp) := by
  obtain ⟨hlt, hcv, hr⟩ := sfx_head hc
  have HN := Lib.hid (next_c g s k (max dp d) 112 r (w.setCell ⟨g, 2, none⟩ (.int .i64 (max (dp : Int) (d : Int)))) (h.setMax d) hc hs)
  have HI := Lib.hid (fun W => base_no 112 W (by omega) (by omega) (by decide))
  have HT := Lib.hid (fun W (hR : Rdr W g s k (max dp d)) => take_c g s k (max dp d) 112 r W hR hc hs)
  have HRec : Hid (∀ W, Rdr W g s (k + 1) (max dp d) → w.grownBy W (some g) → Calls Tryd.prog 109 #[.pointer (some ⟨g, 0, none⟩), .int .i64 ((d : Int) + 1)] W (RdS false W g s (k + 1) (d + 1) (max dp d))) := Lib.hid (fun W hR hG => by
    have := hP (k + 1) (d + 1) (max dp d) W hR (hK.grown hG hg0) (by omega) (by omega) (by omega) (by omega)
    rwa [show ((d + 1 : Nat) : Int) = (d : Int) + 1 from by omega] at this)
  have Hyes : Hid (∀ k', Ty false (sfx s (k + 1)) (sfx s k') ∨ (false = true ∧ sfx s (k + 1) = 41 :: sfx s k') → Ty false (sfx s k) (sfx s k') ∨ (false = true ∧ sfx s k = 41 :: sfx s k')) := Lib.hid (fun k' hx => by
    rcases hx with hx | hx
    · left; rw [hc, ← hr]; exact .ptr hx
    · cases hx.1)
  have Hno : Hid ((∀ r, ¬ Ty false (sfx s (k + 1)) r ∧ ¬ (false = true ∧ sfx s (k + 1) = 41 :: r)) → ∀ r, ¬ Ty false (sfx s k) r ∧ ¬ (false = true ∧ sfx s k = 41 :: r)) := Lib.hid (fun hx r' => ⟨fun ht => by
    rw [hc, ← hr] at ht
    exact (hx r').1 (ty_ptr ht), fun x => by cases x.1⟩)
  have H := Lib.hid h
  obtain ⟨e0, e1, e2, -, f1, f2⟩ := h.cells
  clear h hc hcv hr hK
  unfold maxLen at hs
  go_enter Tryd.func109, Tryd.ntmps109
  go_wp2_with (first
    | (go_at_call 118; refine HN.out.mono ?_; rintro e w1 ⟨rfl, q, rfl⟩)
    | (go_at_call 119; refine (HI.out _).mono ?_; rintro e w2 ⟨rfl, rfl⟩)
    | (go_at_call 120; refine (HT.out _ ((H.out.setMax d).drewN _)).mono ?_; rintro e w3 ⟨rfl, h3⟩; obtain ⟨h31, h32⟩ := h3.at (gb_drewN (gb_set (World.grownBy.refl w (some g)) 2 _) _); have H31 := Lib.hid h31; clear h31)
    | (go_at_call 109; refine (HRec.out _ H31.out h32).mono ?_; rintro e w4 ⟨b, rfl, h4⟩; have H4 := Lib.hid (h4.back (k := k) (d := d) (dp := dp) (m' := false) h32 (by omega) (by omega) Hyes.out Hno.out); clear h4))
  go_ret
  exact ⟨b, rfl, H4.out⟩
end
end Go.Proofs.YtejhphnlickjlaaDoor.ty
