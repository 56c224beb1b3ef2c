/-
  Plain laws on the texts of words: the digits of a word, what a text is read as, and that both ways of reading are one. No program in sight.
-/
import Derived.Test.YtejhphnlickjlaaDoorWordPlain
import Derived.Laws.BytesArg
import Derived.Laws.Strings
namespace Go.Proofs.YtejhphnlickjlaaDoor.W
open Go.RowKit
set_option linter.unusedVariables false
def hexd (d : Int) : Int := if d < 10 then 48 + d else 87 + d
def dgt (a : Int) (i : Nat) : Int := a / 16 ^ (7 - i) % 16
def hexs (a : Int) : List Int := (List.range 8).map fun i => hexd (dgt a i)
def hexS (a : Int) : List Int := [48, 120] ++ hexs a
def dg (c : Int) : Int := if 97 ≤ c then (c - 97 + 10) % 16 else (c - 48) % 16
def val (l : List Int) : Int := l.foldl (fun n c => n * 16 + dg c) 0
def isHex (c : Int) : Bool := decide ((48 ≤ c ∧ c ≤ 57) ∨ (97 ≤ c ∧ c ≤ 102))
def parseR (l : List Int) : Int × Int := if l.length = 10 ∧ l.take 2 = [48, 120] ∧ (l.drop 2).all isHex = true then (val (l.drop 2), 0) else (0, 2)
def parseQ (l : List Int) : Int × Int := if l.length = 10 ∧ hexS (val (l.drop 2)) = l then (val (l.drop 2), 0) else (0, 2)
theorem dg_bd (c : Int) : 0 ≤ dg c ∧ dg c < 16 := by unfold dg; split <;> omega
theorem hexd_bd {d : Int} (h0 : 0 ≤ d) (h1 : d < 16) : 48 ≤ hexd d ∧ hexd d ≤ 102 ∧ isHex (hexd d) = true := by
  unfold hexd isHex
  split
  · exact ⟨by omega, by omega, by simp; omega⟩
  · exact ⟨by omega, by omega, by simp; omega⟩
theorem hexd_dg {c : Int} (h : isHex c = true) : hexd (dg c) = c := by
  unfold isHex at h
  have := of_decide_eq_true h
  unfold hexd dg
  by_cases h1 : 97 ≤ c
  · rw [if_pos h1, if_neg (by omega)]; omega
  · rw [if_neg h1, if_pos (by omega)]; omega
theorem dg_hex {c : Int} (h : isHex c = true) : dg c = if 97 ≤ c then c - 87 else c - 48 := by
  unfold isHex at h
  have := of_decide_eq_true h
  unfold dg
  split <;> omega
theorem hexs_length (a : Int) : (hexs a).length = 8 := by simp [hexs]
theorem hexS_length (a : Int) : (hexS a).length = 10 := by simp [hexS, hexs_length]
theorem dgt_bd (a : Int) (i : Nat) : 0 ≤ dgt a i ∧ dgt a i < 16 := by unfold dgt; omega
theorem hexs_get (a : Int) (k : Nat) (hk : k < 8) : (hexs a)[k]? = some (hexd (dgt a k)) := by simp [hexs, List.getElem?_range hk]
theorem hexs_hex (a : Int) : (hexs a).all isHex = true := by
  rw [List.all_eq_true]
  intro x hx
  obtain ⟨i, _, rfl⟩ := List.mem_map.1 hx
  exact (hexd_bd (dgt_bd a i).1 (dgt_bd a i).2).2.2
theorem hexS_byte (a : Int) : ∀ x ∈ hexS a, 0 ≤ x ∧ x ≤ 255 := by
  intro x hx
  rcases List.mem_append.1 hx with h | h
  · have : x = 48 ∨ x = 120 := by simpa using h
    omega
  · obtain ⟨i, _, rfl⟩ := List.mem_map.1 h
    have := hexd_bd (dgt_bd a i).1 (dgt_bd a i).2
    omega
theorem val_snoc (l : List Int) (c : Int) : val (l ++ [c]) = val l * 16 + dg c := by simp [val, List.foldl_append]
theorem val_bd : ∀ (n : Nat) (l : List Int), l.length = n → 0 ≤ val l ∧ val l < 16 ^ n
  | 0, l, h => by
    have : l = [] := List.eq_nil_of_length_eq_zero h
    subst this
    exact ⟨by simp [val], by simp [val]⟩
  | n + 1, l, h => by
    rcases List.eq_nil_or_concat l with rfl | ⟨a, c, rfl⟩
    · simp at h
    · rw [List.concat_eq_append] at *
      obtain ⟨h1, h2⟩ := val_bd n a (by simpa using h)
      rw [val_snoc]
      have := dg_bd c
      rw [Int.pow_succ]
      omega
theorem val_small {l : List Int} (h : l.length ≤ 7) : 0 ≤ val l ∧ val l < 268435456 := by
  obtain ⟨h1, h2⟩ := val_bd l.length l rfl
  refine ⟨h1, Int.lt_of_lt_of_le h2 ?_⟩
  have : (16 : Int) ^ l.length ≤ 16 ^ 7 := by
    have h3 : (16 : Nat) ^ l.length ≤ 16 ^ 7 := Nat.pow_le_pow_right (by omega) h
    exact_mod_cast h3
  simpa using this
theorem val_word {l : List Int} (h : l.length ≤ 8) : 0 ≤ val l ∧ val l < 4294967296 := by
  obtain ⟨h1, h2⟩ := val_bd l.length l rfl
  refine ⟨h1, Int.lt_of_lt_of_le h2 ?_⟩
  have : (16 : Int) ^ l.length ≤ 16 ^ 8 := by
    have h3 : (16 : Nat) ^ l.length ≤ 16 ^ 8 := Nat.pow_le_pow_right (by omega) h
    exact_mod_cast h3
  simpa using this
theorem hexs_val {l : List Int} (h : l.length = 8) : hexs (val l) = l.map fun c => hexd (dg c) := by
  match l, h with
  | [c0, c1, c2, c3, c4, c5, c6, c7], _ =>
    have b0 := dg_bd c0
    have b1 := dg_bd c1
    have b2 := dg_bd c2
    have b3 := dg_bd c3
    have b4 := dg_bd c4
    have b5 := dg_bd c5
    have b6 := dg_bd c6
    have b7 := dg_bd c7
    have hv : val [c0, c1, c2, c3, c4, c5, c6, c7] = (((((((0 * 16 + dg c0) * 16 + dg c1) * 16 + dg c2) * 16 + dg c3) * 16 + dg c4) * 16 + dg c5) * 16 + dg c6) * 16 + dg c7 := rfl
    rw [hv]
    show _ = [hexd (dg c0), hexd (dg c1), hexd (dg c2), hexd (dg c3), hexd (dg c4), hexd (dg c5), hexd (dg c6), hexd (dg c7)]
    generalize dg c0 = d0 at *
    generalize dg c1 = d1 at *
    generalize dg c2 = d2 at *
    generalize dg c3 = d3 at *
    generalize dg c4 = d4 at *
    generalize dg c5 = d5 at *
    generalize dg c6 = d6 at *
    generalize dg c7 = d7 at *
    have e : ∀ i d, i < 8 → dgt ((((((((0 * 16 + d0) * 16 + d1) * 16 + d2) * 16 + d3) * 16 + d4) * 16 + d5) * 16 + d6) * 16 + d7) i = d → hexd (dgt ((((((((0 * 16 + d0) * 16 + d1) * 16 + d2) * 16 + d3) * 16 + d4) * 16 + d5) * 16 + d6) * 16 + d7) i) = hexd d := fun i d _ h => by rw [h]
    have hl : ∀ v, hexs v = [hexd (dgt v 0), hexd (dgt v 1), hexd (dgt v 2), hexd (dgt v 3), hexd (dgt v 4), hexd (dgt v 5), hexd (dgt v 6), hexd (dgt v 7)] := fun v => rfl
    rw [hl]
    rw [e 0 d0 (by omega) (by unfold dgt; simp only [Nat.reduceSub, Int.reducePow]; omega), e 1 d1 (by omega) (by unfold dgt; simp only [Nat.reduceSub, Int.reducePow]; omega),
      e 2 d2 (by omega) (by unfold dgt; simp only [Nat.reduceSub, Int.reducePow]; omega), e 3 d3 (by omega) (by unfold dgt; simp only [Nat.reduceSub, Int.reducePow]; omega),
      e 4 d4 (by omega) (by unfold dgt; simp only [Nat.reduceSub, Int.reducePow]; omega), e 5 d5 (by omega) (by unfold dgt; simp only [Nat.reduceSub, Int.reducePow]; omega),
      e 6 d6 (by omega) (by unfold dgt; simp only [Nat.reduceSub, Int.reducePow]; omega), e 7 d7 (by omega) (by unfold dgt; simp only [Nat.reduceSub, Int.reducePow]; omega)]
theorem parse_eq (l : List Int) : parseQ l = parseR l := by
  unfold parseQ parseR
  by_cases h : l.length = 10
  · have hd : (l.drop 2).length = 8 := by rw [List.length_drop]; omega
    have key : hexS (val (l.drop 2)) = l ↔ l.take 2 = [48, 120] ∧ (l.drop 2).all isHex = true := by
      unfold hexS
      constructor
      · intro e
        have h1 : l.take 2 = [48, 120] := by rw [← e]; rfl
        have h2 : l.drop 2 = hexs (val (l.drop 2)) := by
          conv => lhs; rw [← e]
          rfl
        exact ⟨h1, by rw [h2]; exact hexs_hex _⟩
      · rintro ⟨h1, h2⟩
        rw [hexs_val hd, ← h1]
        conv => rhs; rw [← List.take_append_drop 2 l]
        congr 1
        conv => rhs; rw [← List.map_id (l.drop 2)]
        exact List.map_congr_left fun c hc => hexd_dg (List.all_eq_true.1 h2 c hc)
    by_cases hc : hexS (val (l.drop 2)) = l
    · rw [if_pos ⟨h, hc⟩, if_pos ⟨h, key.1 hc⟩]
    · rw [if_neg (fun x => hc x.2), if_neg (fun x => hc (key.2 x.2))]
  · rw [if_neg (fun x => h x.1), if_neg (fun x => h x.1)]
/-! ### bytes of a text -/
def nums (s : ByteArray) : List Int := s.data.toList.map fun b => (b.toNat : Int)
theorem nums_length (s : ByteArray) : (nums s).length = s.size := by unfold nums; rw [List.length_map, Array.length_toList]; rfl
theorem nums_get (s : ByteArray) (k : Nat) (h : k < s.size) : (nums s)[k]? = some (s[k].toNat : Int) := by
  have h' : k < s.data.toList.length := by rw [Array.length_toList]; exact h
  simp only [nums, List.getElem?_map, List.getElem?_eq_getElem h', Option.map_some]
  rfl
theorem nums_str {xs : List Int} (h : ∀ x ∈ xs, 0 ≤ x ∧ x ≤ 255) : nums (strOfNums xs) = xs := by
  unfold nums
  rw [strOfNums_data, List.map_map]
  conv => rhs; rw [← List.map_id xs]
  refine List.map_congr_left fun x hx => ?_
  obtain ⟨h0, h1⟩ := h x hx
  simp only [Function.comp, id]
  rw [UInt8.toNat_ofNat']
  omega
theorem nums_inj {s t : ByteArray} (h : nums s = nums t) : s = t := by
  apply ByteArray.ext
  apply Array.toList_inj.1
  unfold nums at h
  have hf : ∀ (a b : List UInt8), a.map (fun b => (b.toNat : Int)) = b.map (fun b => (b.toNat : Int)) → a = b := by
    intro a
    induction a with
    | nil => intro b hb; cases b with | nil => rfl | cons y r => simp at hb
    | cons x a ih =>
      intro b hb
      cases b with
      | nil => simp at hb
      | cons y r =>
        rw [List.map_cons, List.map_cons] at hb
        injection hb with h1 h2
        have hxy : x.toNat = y.toNat := by omega
        rw [UInt8.toNat_inj.1 hxy, ih r h2]
  exact hf _ _ h
theorem str_cons (b : UInt8) (x : Int) (xs : List Int) (h : (b.toNat : Int) = x) : (⟨#[b]⟩ : ByteArray) ++ strOfNums xs = strOfNums (x :: xs) := by
  apply ByteArray.ext
  apply Array.toList_inj.1
  rw [strOfNums_data]
  subst h
  simp [strOfNums]
theorem str_0x (xs : List Int) : (⟨#[48, 120]⟩ : ByteArray) ++ strOfNums xs = strOfNums ([48, 120] ++ xs) := by
  apply ByteArray.ext
  apply Array.toList_inj.1
  rw [strOfNums_data]
  simp [strOfNums]
/-! ### numbers -/
theorem digit_at (d : Int) (h0 : 0 ≤ d) (h1 : d < 16) (hb : d.toNat < (⟨#[48, 49, 50, 51, 52, 53, 54, 55, 56, 57, 97, 98, 99, 100, 101, 102]⟩ : ByteArray).size) :
    (((⟨#[48, 49, 50, 51, 52, 53, 54, 55, 56, 57, 97, 98, 99, 100, 101, 102]⟩ : ByteArray)[d.toNat]'hb).toNat : Int) = hexd d := by
  obtain ⟨n, rfl⟩ : ∃ n : Nat, d = n := ⟨d.toNat, by omega⟩
  have hn : n < 16 := by omega
  simp only [Int.toNat_natCast] at hb ⊢
  clear h0 h1
  revert hb
  match n, hn with
  | 0, _ | 1, _ | 2, _ | 3, _ | 4, _ | 5, _ | 6, _ | 7, _ | 8, _ | 9, _ | 10, _ | 11, _ | 12, _ | 13, _ | 14, _ | 15, _ => intro hb; rfl
  | n + 16, h => exact absurd h (by omega)
theorem and15 (n : Int) (hn : 0 ≤ n) (hn' : n < 4294967296) : bits .and .u32 n 15 = n % 16 := by
  rw [u32_and n 15 hn hn' (by omega) (by omega)]
  have : (15 : Int).toNat = 15 := rfl
  rw [this]
  have h : n.toNat &&& 15 = n.toNat % 16 := Nat.and_two_pow_sub_one_eq_mod n.toNat 4
  rw [h]; omega
theorem or_digit (n d : Int) (h0 : 0 ≤ n) (h1 : n < 268435456) (d0 : 0 ≤ d) (d1 : d < 16) : bits .or .u32 (n * 16) d = n * 16 + d := by
  rw [u32_or _ _ (by omega) (by omega) (by omega) (by omega)]
  have e : (n * 16).toNat = n.toNat <<< 4 := by rw [Nat.shiftLeft_eq]; omega
  rw [e, ← Nat.shiftLeft_add_eq_or_of_lt (by omega : d.toNat < 2 ^ 4), Nat.shiftLeft_eq]
  omega
theorem or_word (x0 x1 x2 x3 : Int) (h0 : 0 ≤ x0 ∧ x0 ≤ 255) (h1 : 0 ≤ x1 ∧ x1 ≤ 255) (h2 : 0 ≤ x2 ∧ x2 ≤ 255) (h3 : 0 ≤ x3 ∧ x3 ≤ 255) :
    bits .or .u32 (bits .or .u32 (bits .or .u32 x0 (x1 * 256)) (x2 * 65536)) (x3 * 16777216) = x0 + x1 * 256 + x2 * 65536 + x3 * 16777216 := by
  have e : ∀ (lo hi : Int) (k : Nat), 0 ≤ lo → lo < 2 ^ k → 0 ≤ hi → hi * 2 ^ k < 4294967296 → k ≤ 31 → bits .or .u32 lo (hi * 2 ^ k) = lo + hi * 2 ^ k := by
    intro lo hi k l0 l1 g0 g1 hk
    obtain ⟨a, rfl⟩ : ∃ a : Nat, lo = a := ⟨lo.toNat, by omega⟩
    obtain ⟨b, rfl⟩ : ∃ b : Nat, hi = b := ⟨hi.toNat, by omega⟩
    have ea : (b : Int) * 2 ^ k = ((b <<< k : Nat) : Int) := by rw [Nat.shiftLeft_eq]; push_cast; rfl
    have la : a < 2 ^ k := by exact_mod_cast l1
    have l2 : (2 : Nat) ^ k ≤ 2 ^ 31 := Nat.pow_le_pow_right (by omega) hk
    rw [ea] at g1 ⊢
    rw [u32_or _ _ (by omega) (by have : (2 : Nat) ^ 31 = 2147483648 := rfl; omega) (Int.natCast_nonneg _) g1]
    simp only [Int.toNat_natCast]
    rw [Nat.or_comm, ← Nat.shiftLeft_add_eq_or_of_lt la]
    push_cast
    omega
  have e1 := e x0 x1 8 h0.1 (by omega) h1.1 (by omega) (by omega)
  have e2 := e (x0 + x1 * 256) x2 16 (by omega) (by omega) h2.1 (by omega) (by omega)
  have e3 := e (x0 + x1 * 256 + x2 * 65536) x3 24 (by omega) (by omega) h3.1 (by omega) (by omega)
  simp only [Int.reducePow] at e1 e2 e3
  rw [e1, e2, e3]
end Go.Proofs.YtejhphnlickjlaaDoor.W
