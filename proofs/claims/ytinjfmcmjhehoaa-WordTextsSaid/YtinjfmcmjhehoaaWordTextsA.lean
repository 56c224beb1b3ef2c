/-
  Contracts of the texts and bytes of word and of the reference. Conditions: words and bytes lie in their bounds; lists stand in memory.
-/
import Derived.Test.YtinjfmcmjhehoaaGapT
import Derived.Test.YtinjfmcmjhehoaaWordText
import Derived.ArgAppend
import Derived.Lib.SlBytesConst
namespace Go.Proofs.Ytinjfmcmjhehoaa.wt
open Go.ChangeShapes Go.WideShapes Go.ChangeAt Go.RowKit
open M W gaps
set_option linter.unusedVariables false
def bs (l : List Int) : List Value := l.map (.int .u8)
theorem bs_length (l : List Int) : (bs l).length = l.length := by simp [bs]
theorem bs_append (a b : List Int) : bs (a ++ b) = bs a ++ bs b := by simp [bs]
theorem bs_one (l : List Int) : ∀ u ∈ bs l, u.oneCell' = true := by
  intro u hu
  obtain ⟨x, _, rfl⟩ := List.mem_map.1 hu
  rfl
theorem info5 : (Try.prog.info? 5).map (fun i => (i.zero, i.size, i.bytes)) = some (some (.int .u8 0), 1, 1) := by kernel_rfl
theorem conv_rd (W : World) (B : Nat) (A : Option Addr) (n c : Nat) (xs : List Int) (hx : xs.length = n) (hA : Rd W B A (bs xs)) : (convert 23 9 (.slice A n c)).run Try.prog W = .ok (.string (strOfNums xs)) W := by
  rcases A with _ | ad
  · have hn : xs = [] := by
      rcases List.eq_nil_or_concat xs with h | ⟨_, _, h⟩
      · exact h
      · obtain ⟨ad, h, _⟩ := hA (by rw [h]; simp [bs])
        cases h
    subst hn
    rw [run_convert_bytes_nil W 23 5 Try.underlying23 Try.underlying5 n c 9 Try.underlying9]
    rfl
  · have hl : (loadCells ad n).run Try.prog W = .ok (xs.map (Value.int .u8)).toArray W := by
      have := run_loadCells_list (P := Try.prog) W ad (xs.map (Value.int .u8)) (fun j v hj => by
        obtain ⟨ad', h, _, hc⟩ := hA (by rintro h0; have : (bs xs)[j]? = some v := hj; rw [h0] at this; simp at this)
        injection h with h
        subst h
        exact hc j v hj)
      simpa [hx] using this
    rw [run_convert_bytes_string W 23 9 5 _ n c Try.underlying23 Try.underlying5 Try.underlying9, run_bytesToString W _ n c xs hl, foldl_push_bytes]
    simp [strOfNums, ByteArray.empty, ByteArray.emptyWithCapacity]
    rfl
theorem conv_new (W : World) (b : UInt8) : (convert 23 9 (.slice (some ⟨W.heap.size, 0, none⟩) 1 1)).run Try.prog (W.alloc (.cells #[.int .u8 (b.toNat : Int)] 5)) = .ok (.string ⟨#[b]⟩) (W.alloc (.cells #[.int .u8 (b.toNat : Int)] 5)) := by
  have h := conv_rd (W.alloc (.cells #[.int .u8 (b.toNat : Int)] 5)) (W.heap.size + 1) (some ⟨W.heap.size, 0, none⟩) 1 1 [(b.toNat : Int)] rfl (fun _ =>
    ⟨_, rfl, by simp, fun j u hu => by
      rw [show (⟨W.heap.size, 0, none⟩ : Addr).add j = ⟨W.heap.size, j, none⟩ from by unfold Addr.add; split <;> simp_all, cn]
      simpa [bs] using hu⟩)
  rw [h]
  simp [strOfNums]
theorem sameBytes_self (A B : Option Addr) (n c d : Nat) (w : World) (xs : List Int) (hx : xs.length = n) (hA : Rd w w.heap.size A (bs xs)) (hB : Rd w w.heap.size B (bs xs)) :
    Calls Try.prog 15 #[.slice A n c, .slice B n d] w fun e w' => e = .returned (.bool true) ∧ w = w' := by
  have k1 := conv_rd w _ A n c xs hx hA
  have k2 := conv_rd w _ B n d xs hx hB
  clear hx hA hB
  go_enter Try.func15, Try.ntmps15
  go_wp2
  go_ret
  exact ⟨rfl, rfl⟩
theorem own_empty_b (w : World) (B : Nat) (hB : B ≤ w.heap.size) : (w.alloc (.cells #[] 5)).ownsRow B 5 1 (.slice (some ⟨w.heap.size, 0, none⟩) 0 0) 0 [] :=
  own_base (World.ownsRow_lit (size := 1) (e := 5) w #[] 0 (Nat.le_refl _) (by simp [maxLen]) rfl) hB
theorem cbytes_any (A : Option Addr) (n c : Nat) (l : List Int) (w : World) (hl : l.length = n) (hn : n ≤ 140737488355328) (hA : Rd w w.heap.size A (bs l)) :
    Calls Try.prog 10 #[.slice A n c] w fun e w' => ∃ A' c', e = .returned (.slice A' n c') ∧ n ≤ c' ∧ c' ≤ maxLen ∧ w'.ownsRow w.heap.size 5 1 (.slice A' n c') n (bs l) ∧ Below w.heap.size w w' := by
  obtain ⟨i1, hj, hy0, hy1, hy2⟩ := info_parts info5
  have HA := Lib.hid hA
  have Hl := Lib.hid hl
  clear hA hl
  go_enter Try.func10, Try.ntmps10
  go_wp2_with (at_builtin; refine wpList_append_rs _ rfl (.tmp 3) (.tmp 4) 23 rfl w.heap.size 5 i1 _ 1 1 Try.underlying23 hj hy0 hy1 hy2 rfl (by omega) (.slice (some ⟨w.heap.size, 0, none⟩) 0 0) 0 [] rfl (own_empty_b w _ (Nat.le_refl _)) _ A n c (bs l) rfl (by rw [bs_length, Hl.out]; omega) (HA.out.alloc (Nat.le_refl _) _) (bs_one _) (by simp only [maxLen]; omega) (by omega) (by simp) ?_; intro A0 c0 w0 hq0 hm0 hown0 hg0 hat0; simp only [Nat.zero_add, List.nil_append] at hown0 hq0)
  go_ret
  exact ⟨A0, c0, rfl, hq0, hm0, hown0, ((Below.refl _ _).alloc (Nat.le_refl _) _).grown hg0 (by simp) (fun g hg => by have := lit_block hg; omega)⟩
def bytesL (a : Int) : List Int := [a % 256, a / 256 % 256, a / 65536 % 256, a / 16777216]
theorem rd_four (w : World) (x0 x1 x2 x3 : Int) : Rd (w.alloc (.cells #[.int .u8 x0, .int .u8 x1, .int .u8 x2, .int .u8 x3] 5)) (w.heap.size + 1) (some ⟨w.heap.size, 0, none⟩) (bs [x0, x1, x2, x3]) := fun _ =>
  ⟨_, rfl, by simp, fun j u hu => by
    rw [show (⟨w.heap.size, 0, none⟩ : Addr).add j = ⟨w.heap.size, j, none⟩ from by unfold Addr.add; split <;> simp_all, cn]
    simpa [bs] using hu⟩
theorem bytes_any (a : Int) (w : World) (ha : 0 ≤ a) (ha' : a < 4294967296) :
    Calls Try.prog 16 #[.int .u32 a] w fun e w' => ∃ g, e = .returned (.slice (some ⟨g, 0, none⟩) 4 4) ∧ Rd w' w'.heap.size (some ⟨g, 0, none⟩) (bs (bytesL a)) ∧ Below w.heap.size w w' := by
  go_enter Try.func16, Try.ntmps16
  go_wp2
  go_ret
  exact ⟨w.heap.size, rfl, (rd_four w _ _ _ _).more (by simp), (Below.refl _ _).alloc (Nat.le_refl _) _⟩
theorem rbytes_any (a : Int) (w : World) (ha : 0 ≤ a) (ha' : a < 4294967296) :
    Calls Try.prog 17 #[.int .u32 a] w fun e w' => ∃ g, e = .returned (.slice (some ⟨g, 0, none⟩) 4 4) ∧ Rd w' w'.heap.size (some ⟨g, 0, none⟩) (bs (bytesL a)) ∧ Below w.heap.size w w' := by
  go_enter Try.func17, Try.ntmps17
  go_wp2
  go_ret
  exact ⟨w.heap.size, rfl, (rd_four w _ _ _ _).more (by simp), (Below.refl _ _).alloc (Nat.le_refl _) _⟩
def fromR (l : List Int) : Int × Int := match l with | [x0, x1, x2, x3] => (x0 + x1 * 256 + x2 * 65536 + x3 * 16777216, 0) | _ => (0, 3)
theorem fromR_no {l : List Int} (h : l.length ≠ 4) : fromR l = (0, 3) := by
  unfold fromR
  split
  · simp at h
  · rfl
theorem four_cells {w : World} {A : Option Addr} {x0 x1 x2 x3 : Int} (hA : Rd w w.heap.size A (bs [x0, x1, x2, x3])) : ∃ ad, A = some ad ∧ w.cell? ad = some (.int .u8 x0) ∧ w.cell? ⟨ad.block, ad.off + 1, none⟩ = some (.int .u8 x1) ∧ w.cell? ⟨ad.block, ad.off + 2, none⟩ = some (.int .u8 x2) ∧ w.cell? ⟨ad.block, ad.off + 3, none⟩ = some (.int .u8 x3) := by
  obtain ⟨ad, rfl, _, hc⟩ := hA (by simp [bs])
  exact ⟨ad, rfl, hc 0 _ rfl, hc 1 _ rfl, hc 2 _ rfl, hc 3 _ rfl⟩
theorem from_any (A : Option Addr) (n c : Nat) (l : List Int) (w : World) (hl : l.length = n) (hn : n ≤ maxLen) (hA : Rd w w.heap.size A (bs l)) (hb : ∀ x ∈ l, 0 ≤ x ∧ x ≤ 255) :
    Calls Try.prog 11 #[.slice A n c] w fun e w' => e = .returned (.tuple #[.int .u32 (fromR l).1, .int .i64 (fromR l).2]) ∧ Below w.heap.size w w' := by
  unfold maxLen at hn
  by_cases h4 : n = 4
  · subst h4
    match l, hl with
    | [x0, x1, x2, x3], _ =>
      obtain ⟨ad, rfl, c0, c1, c2, c3⟩ := four_cells hA
      have h0 := hb x0 (by simp)
      have h1 := hb x1 (by simp)
      have h2 := hb x2 (by simp)
      have h3 := hb x3 (by simp)
      have ho := or_word x0 x1 x2 x3 h0 h1 h2 h3
      clear hb hA
      go_enter Try.func11, Try.ntmps11
      go_wp2
      go_quiet (fail)
      go_wp2
      go_ret2
      exact ⟨rfl, below_drewN (Below.refl _ _) _⟩
  · rw [fromR_no (by rw [hl]; exact h4)]
    have hd : ((n : Int) != 4) = true := by simp; omega
    clear hA hl hb h4
    go_enter Try.func11, Try.ntmps11
    go_wp2
    go_ret2
    exact ⟨rfl, Below.refl _ _⟩
theorem rfrom_any (A : Option Addr) (n c : Nat) (l : List Int) (w : World) (hl : l.length = n) (hn : n ≤ maxLen) (hA : Rd w w.heap.size A (bs l)) (hb : ∀ x ∈ l, 0 ≤ x ∧ x ≤ 255) :
    Calls Try.prog 12 #[.slice A n c] w fun e w' => e = .returned (.tuple #[.int .u32 (fromR l).1, .int .i64 (fromR l).2]) ∧ Below w.heap.size w w' := by
  unfold maxLen at hn
  by_cases h4 : n = 4
  · subst h4
    match l, hl with
    | [x0, x1, x2, x3], _ =>
      obtain ⟨ad, rfl, c0, c1, c2, c3⟩ := four_cells hA
      have h0 := hb x0 (by simp)
      have h1 := hb x1 (by simp)
      have h2 := hb x2 (by simp)
      have h3 := hb x3 (by simp)
      clear hb hA
      go_enter Try.func12, Try.ntmps12
      go_wp2
      go_quiet (fail)
      go_wp2
      go_ret2
      exact ⟨rfl, below_drewN (Below.refl _ _) _⟩
  · rw [fromR_no (by rw [hl]; exact h4)]
    have hd : ((n : Int) != 4) = true := by simp; omega
    clear hA hl hb h4
    go_enter Try.func12, Try.ntmps12
    go_wp2
    go_ret2
    exact ⟨rfl, Below.refl _ _⟩
theorem rd_newb (W : World) (x : Int) : Rd (W.alloc (.cells #[.int .u8 x] 5)) (W.heap.size + 1) (some ⟨W.heap.size, 0, none⟩) (bs [x]) := fun _ =>
  ⟨_, rfl, by simp, fun j u hu => by
    rw [show (⟨W.heap.size, 0, none⟩ : Addr).add j = ⟨W.heap.size, j, none⟩ from by unfold Addr.add; split <;> simp_all, cn]
    simpa [bs] using hu⟩
theorem dgt_shift (a : Int) (k : Nat) (ha : 0 ≤ a) (ha' : a < 4294967296) (hk : k < 8) : bits .and .u32 (a / 2 ^ (28 - 4 * k)) 15 = dgt a k := by
  have e : (2 : Int) ^ (28 - 4 * k) = 16 ^ (7 - k) := by
    rw [show 28 - 4 * k = 4 * (7 - k) from by omega, Int.pow_mul]; rfl
  have hb : 0 ≤ a / 2 ^ (28 - 4 * k) ∧ a / 2 ^ (28 - 4 * k) < 4294967296 := by
    have hp : (0 : Int) < 2 ^ (28 - 4 * k) := Int.pow_pos (by omega)
    exact ⟨Int.ediv_nonneg ha (Int.le_of_lt hp), Int.lt_of_le_of_lt (Int.ediv_le_self _ ha) ha'⟩
  rw [and15 _ hb.1 hb.2, e]
  rfl
theorem own_none {w w' : World} {B : Nat} (h : w.grownBy w' none) (hB : B ≤ w.heap.size) : Below B w w' := ⟨h.os, h.tape, h.output, h.size, fun k hk => h.block k (by omega) (by simp)⟩
theorem cells_0x (w : World) (o : Obj) : ∀ b, (some ⟨w.heap.size, 0, none⟩ : Option Addr) = some b → ∀ j u, (bs [48, 120])[j]? = some u → ((w.alloc (.cells #[.int .u8 48, .int .u8 120] 5 (2, 3))).alloc o).cell? (b.add j) = some u := by
  intro b hb j u hu
  injection hb with hb
  subst hb
  rw [show (⟨w.heap.size, 0, none⟩ : Addr).add j = ⟨w.heap.size, j, none⟩ from by unfold Addr.add; split <;> simp_all, World.cell?_alloc_lt _ _ _ (by simp), World.cell?_alloc_mark]
  simpa [bs] using hu
theorem cells_newb {W : World} {g : Nat} {x : Int} (hg : g = W.heap.size) : ∀ j u, (bs [x])[j]? = some u → (W.alloc (.cells #[.int .u8 x] 5)).cell? ((⟨g, 0, none⟩ : Addr).add j) = some u := by
  subst hg
  intro j u hu
  rw [show (⟨W.heap.size, 0, none⟩ : Addr).add j = ⟨W.heap.size, j, none⟩ from by unfold Addr.add; split <;> simp_all, cn]
  simpa [bs] using hu
theorem hex_any (a : Int) (w : World) (ha : 0 ≤ a) (ha' : a < 4294967296) :
    Calls Try.prog 18 #[.int .u32 a] w fun e w' => e = .returned (.string (strOfNums (hexS a))) ∧ Below w.heap.size w w' := by
  obtain ⟨i1, hj, hy0, hy1, hy2⟩ := info_parts info5
  have kc := fun (w : World) (C : Array Value) (n c : Nat) => Lib.run_convert_bytes_const (P := Try.prog) w 23 5 C n c Try.underlying23 Try.underlying5
  go_enter Try.func18, Try.ntmps18
  go_wp2_with fail
  clear kc
  go_loopw [3, 7] (fun v i wr => ∃ (k : Nat), k ≤ 8 ∧ i = .int .i64 k ∧ ((k = 0 ∧ v = .slice (some ⟨w.heap.size, 0, none⟩) 2 2 ∧ wr = w.alloc (.cells #[.int .u8 48, .int .u8 120] 5 (2, 3))) ∨
      (∃ A c, 1 ≤ k ∧ v = .slice A (2 + k) c ∧ wr.ownsRow w.heap.size 5 1 (.slice A (2 + k) c) (2 + k) (bs ([48, 120] ++ (hexs a).take k)) ∧ Below w.heap.size w wr))) (fun _ i _ => 8 - (intOf i).toNat)
  case atStart => exact ⟨0, by omega, rfl, .inl ⟨rfl, rfl, rfl⟩⟩
  case round =>
    obtain ⟨k, hk, rfl, hrel⟩ := hrel
    by_cases hlt : k < 8
    · have hd := dgt_shift a k ha ha' hlt
      obtain ⟨d0, d1⟩ := dgt_bd a k
      have Hs : Hid ((hexs a).take (k + 1) = (hexs a).take k ++ [hexd (dgt a k)]) := Lib.hid (by rw [List.take_add_one, hexs_get a k hlt]; rfl)
      generalize dgt a k = d at *
      have hdg := fun hb => digit_at d d0 d1 hb
      rcases hrel with ⟨h0, rfl, rfl⟩ | ⟨A, c, h1, rfl, hown, hb⟩
      · have H0 := Lib.hid h0
        clear h0
        go_wp2_with (at_builtin; go_loud (refine wpList_append_grows _ rfl (.tmp 10) (.tmp 18) 23 rfl 5 i1 _ 1 1 Try.underlying23 hj hy0 hy1 hy2 rfl (by omega) (some ⟨w.heap.size, 0, none⟩) 2 2 (bs [48, 120]) rfl (fun h => by cases h) rfl (cells_0x w _) ⟨w.heap.size + 1, 0, none⟩ 1 1 (bs [hexd d]) rfl rfl (cells_newb (by simp)) (bs_one _) (by omega) (by simp only [maxLen]; omega) (by omega) ?_); intro v6 w6 hown6 hg6; obtain ⟨A6, c6, rfl, hk6, hm6⟩ := own_form hown6; rw [← bs_append] at hown6)
        go_roundw
        case rel =>
          have h0 := H0.out
          refine ⟨k + 1, by omega, by go_num, .inr ⟨A6, c6, by omega, ?_⟩⟩
          rw [Hs.out, h0]
          exact ⟨rfl, own_base hown6 (by simp; omega), (((Below.refl _ _).alloc (Nat.le_refl _) _).alloc (by simp) _).trans (own_none hg6 (by simp; omega))⟩
        case measure => simp [intOf]; omega
      · have Hown := Lib.hid hown
        have hs := hb.size
        clear hown
        go_wp2_with (at_builtin; go_loud (refine wpList_append_rs _ rfl (.tmp 10) (.tmp 18) 23 rfl w.heap.size 5 i1 _ 1 1 Try.underlying23 hj hy0 hy1 hy2 rfl (by omega) (.slice A (2 + k) c) (2 + k) (bs ([48, 120] ++ (hexs a).take k)) rfl (Hown.out.alloc _) _ (some ⟨wr.heap.size, 0, none⟩) 1 1 (bs [hexd d]) rfl rfl (rd_newb wr _) (bs_one _) (by simp only [maxLen]; omega) (by omega) (by simp; omega) ?_); intro A6 c6 w6 hk6 hm6 hown6 hg6 hat6; rw [← bs_append, List.append_assoc, ← Hs.out] at hown6; have b6 : Below w.heap.size w w6 := (hb.alloc hb.size _).grown hg6 (by simp; omega) (fun g hg => (Hown.out.lt g hg).1))
        go_roundw
        case rel => exact ⟨k + 1, by omega, by go_num, .inr ⟨A6, c6, by omega, rfl, hown6, b6⟩⟩
        case measure => simp [intOf]; omega
    · rcases hrel with ⟨h0, rfl, rfl⟩ | ⟨A, c, h1, rfl, hown, hb⟩
      · omega
      · have e8 : (hexs a).take k = hexs a := List.take_of_length_le (by rw [hexs_length]; omega)
        rw [e8] at hown
        have kv := conv_rd wr _ A (2 + k) c ([48, 120] ++ hexs a) (by rw [List.length_append, hexs_length]; simp; omega) (Rd.of_own hown)
        have hk8 : ¬ (k : Int) < 8 := by omega
        clear hown e8
        go_wp2_with fail
        go_ret
        exact ⟨rfl, hb⟩
def RHex (a : Int) (w : World) (x s i : Value) (wr : World) : Prop := ∃ (k : Nat) (b : Int), k ≤ 8 ∧ i = .int .i64 k ∧ x = .int .u32 b ∧ b = a / 16 ^ k ∧ s = .string (strOfNums ((hexs a).drop (8 - k))) ∧ Below w.heap.size w wr
theorem rhex_any (a : Int) (w : World) (ha : 0 ≤ a) (ha' : a < 4294967296) :
    Calls Try.prog 19 #[.int .u32 a] w fun e w' => e = .returned (.string (strOfNums (hexS a))) ∧ Below w.heap.size w w' := by
  have kc := conv_new
  go_enter Try.func19, Try.ntmps19
  go_wp2_with fail
  go_loopw [0, 3, 4] (fun x s i wr => RHex a w x s i wr) (fun _ _ i _ => 8 - (intOf i).toNat)
  case atStart => exact ⟨0, a, by omega, rfl, rfl, by simp, rfl, Below.refl _ _⟩
  case round =>
    obtain ⟨k, b, hk, rfl, rfl, hbe, rfl, hb⟩ := hrel
    have Hbe := Lib.hid hbe
    obtain ⟨b0, b1⟩ : 0 ≤ b ∧ b < 4294967296 := by
      have hp : (0 : Int) < 16 ^ k := Int.pow_pos (by omega)
      rw [hbe]
      exact ⟨Int.ediv_nonneg ha (Int.le_of_lt hp), Int.lt_of_le_of_lt (Int.ediv_le_self _ ha) ha'⟩
    clear hbe
    have hs := hb.size
    by_cases hlt : k < 8
    · have Hd : Hid (b % 16 = dgt a (7 - k)) := Lib.hid (by rw [Hbe.out]; unfold dgt; rw [show 7 - (7 - k) = k from by omega])
      have Hs : Hid ((hexs a).drop (8 - (k + 1)) = hexd (dgt a (7 - k)) :: (hexs a).drop (8 - k)) := Lib.hid (by
        have h1 := hexs_get a (7 - k) (by omega)
        obtain ⟨h2, h3⟩ := List.getElem?_eq_some_iff.1 h1
        rw [show 8 - (k + 1) = 7 - k from by omega, List.drop_eq_getElem_cons h2, h3, show 7 - k + 1 = 8 - k from by omega])
      have hts : (strOfNums ((hexs a).drop (8 - k))).size ≤ 8 := by rw [strOfNums_size, List.length_drop, hexs_length]; omega
      generalize (hexs a).drop (8 - k) = t at *
      go_wp2_with fail
      go_roundw
      case rel =>
        refine ⟨k + 1, b / 16, by omega, by go_num, rfl, by rw [Hbe.out, Int.pow_succ, ← Int.ediv_ediv_of_nonneg (Int.le_of_lt (Int.pow_pos (by omega)))], ?_, hb.alloc hb.size _⟩
        rw [Hs.out, ← Hd.out, str_cons _ (hexd (b % 16)) t (digit_at _ (by omega) (by omega) _)]
      case measure => simp [intOf]; omega
    · obtain rfl : k = 8 := by omega
      have e0 : (hexs a).drop (8 - 8) = hexs a := rfl
      rw [e0]
      have h0x := str_0x (hexs a)
      have hts : (strOfNums (hexs a)).size ≤ 8 := by rw [strOfNums_size, hexs_length]; omega
      clear e0
      go_wp2_with fail
      go_ret
      exact ⟨rfl, hb⟩
end Go.Proofs.Ytinjfmcmjhehoaa.wt
