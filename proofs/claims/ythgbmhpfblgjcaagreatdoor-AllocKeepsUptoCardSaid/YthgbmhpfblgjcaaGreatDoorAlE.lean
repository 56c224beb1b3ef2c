/-
  The contract of right of package alloc. Condition: the facts and the places stand in memory.
-/
import Derived.Test.YthgbmhpfblgjcaaGreatDoorAlC
set_option linter.unusedVariables false
set_option linter.unusedSimpArgs false
namespace Go.Proofs.YthgbmhpfblgjcaaGreatDoor.fl
open Go.RowKit Go.Shelf
open M T ty
set_option linter.unusedVariables false
def atP (ps : List Int) (s : Int) : Int := (ps[s.toNat]?).getD 0
theorem atP_get {ps : List Int} {k : Nat} {x : Int} (h : ps[k]? = some x) : atP ps k = x := by unfold atP; rw [Int.toNat_natCast, h]; rfl
/-- a register may have its place -/
def RightP (cl : Nat → List Int) (nv ac : List Bool) (L : Prs) (r : Nat) (ps : List Int) (i : Nat) : Prop :=
  (atP ps i < 0 → nv[i]? = some true) ∧ (0 ≤ atP ps i → ¬ (atP ps i ≤ 3 ∧ ac[i]? = some true) ∧ (∀ s ∈ cl i, atP ps s ≠ atP ps i) ∧ (16 ≤ atP ps i → ∀ s : Nat, s < r → ((i : Int), (s : Int)) ∈ L → atP ps s ≠ atP ps i))
def SaysR (P : Prop) (w : World) (e : Ending) (w' : World) : Prop := ∃ b : Bool, e = .returned (.bool b) ∧ (b = true ↔ P) ∧ w' = w
theorem says_yes {P : Prop} {w : World} (h : P) : SaysR P w (.returned (.bool true)) w := ⟨true, rfl, by simp [h], rfl⟩
theorem says_no {P : Prop} {w : World} (h : ¬ P) : SaysR P w (.returned (.bool false)) w := ⟨false, rfl, by simp [h], rfl⟩
/-- where the head of the facts lies -/
def KBox (W : World) (kb : Nat) (F : KLay) (r : Nat) : Prop := W.heap[kb]? = some (.cells #[.slice (some ⟨F.g, 0, none⟩) r r, .slice (some ⟨F.nb, 0, none⟩) r r, .slice (some ⟨F.ab, 0, none⟩) r r, .slice F.WA r F.wc] 98 (0, 0))
theorem KBox.cells {W : World} {kb r : Nat} {F : KLay} (h : KBox W kb F r) : W.cell? ⟨kb, 0, none⟩ = some (.slice (some ⟨F.g, 0, none⟩) r r) ∧ W.cell? ⟨kb, 1, none⟩ = some (.slice (some ⟨F.nb, 0, none⟩) r r) ∧ W.cell? ⟨kb, 2, none⟩ = some (.slice (some ⟨F.ab, 0, none⟩) r r) ∧ W.cell? ⟨kb, 3, none⟩ = some (.slice F.WA r F.wc) :=
  ⟨Go.Joins.cell_of_block h 0, Go.Joins.cell_of_block h 1, Go.Joins.cell_of_block h 2, Go.Joins.cell_of_block h 3⟩
theorem KAt.clash {W : World} {B : Nat} {F : KLay} {cl : Nat → List Int} {nv ac : List Bool} {L : Prs} {r : Nat} (h : KAt W B F cl nv ac L r) {i : Nat} (hi : i < r) : W.cell? ⟨F.g, i, none⟩ = some (.slice (F.A i) (cl i).length (F.c i)) ∧ Rd W B (F.A i) (ints (cl i)) := by
  obtain ⟨ad, p, l, e1, e2, e3, e4, e5, e6⟩ := row_at h.g (k := i) (by simp; exact hi)
  rw [List.getElem?_map, List.getElem?_range hi] at e2
  obtain rfl := Option.some.inj e2
  obtain rfl := Option.some.inj e1
  rw [← e3, add_none] at e5
  exact ⟨e5, e6⟩
theorem KAt.wrow {W : World} {B : Nat} {F : KLay} {cl : Nat → List Int} {nv ac : List Bool} {L : Prs} {r : Nat} (h : KAt W B F cl nv ac L r) {i : Nat} (hi : i < r) : ∃ ad p, F.WA = some ad ∧ ad.add i = p ∧ W.cell? p = some (.slice (some ⟨F.wb i, 0, none⟩) r r) := by
  obtain ⟨ad, e, -, hc⟩ := h.row.at_ (j := i) (by simp; exact hi)
  refine ⟨ad, _, e, rfl, ?_⟩
  rw [hc]
  simp [rowV]
def NoHit (l : List Int) (ps : List Int) (p : Int) (j : Nat) : Prop := ∀ s ∈ l.take j, atP ps s ≠ p
theorem NoHit.snoc {l ps : List Int} {p s : Int} {j : Nat} (h : NoHit l ps p j) (hs : l[j]? = some s) (hne : atP ps s ≠ p) : NoHit l ps p (j + 1) := fun x hx => by
  rw [List.take_add_one, hs, Option.toList_some] at hx
  rcases List.mem_append.1 hx with hx | hx
  · exact h x hx
  · rw [List.mem_singleton] at hx
    rw [hx]
    exact hne
def NoHit2 (L : Prs) (i : Nat) (ps : List Int) (p : Int) (j : Nat) : Prop := ∀ s : Nat, s < j → ((i : Int), (s : Int)) ∈ L → atP ps s ≠ p
theorem NoHit2.snoc {L : Prs} {i : Nat} {ps : List Int} {p : Int} {j : Nat} (h : NoHit2 L i ps p j) (hne : ((i : Int), (j : Int)) ∈ L → atP ps j ≠ p) : NoHit2 L i ps p (j + 1) := fun s hs => by
  rcases Nat.lt_or_ge s j with h1 | h1
  · exact h s h1
  · obtain rfl : s = j := by omega
    exact hne
set_option maxRecDepth 20000 in
set_option maxHeartbeats 8000000 in
theorem right_39 {W : World} {B kb : Nat} {F : KLay} {cl : Nat → List Int} {nv ac : List Bool} {L : Prs} {r : Nat} (h : KAt W B F cl nv ac L r) (hk : KBox W kb F r) (ps : List Int) (hps : ps.length = r) {PA : Option Addr} {pc B2 : Nat} (hp : Rd W B2 PA (ints ps)) {i : Nat} (hi : i < r) (hr : r ≤ 4096)
    (hcl : ∀ a, ∀ s ∈ cl a, 0 ≤ s ∧ s < (r : Int)) (hcn : ∀ a, (cl a).length ≤ 4096) (hnl : nv.length = r) (hal : ac.length = r) :
    Calls Tryz.prog 39 #[.pointer (some ⟨kb, 0, none⟩), .slice PA r pc, .int .i64 i] W (SaysR (RightP cl nv ac L r ps i) W) := by
  have hrI : (r : Int) ≤ 4096 := by omega
  have hiI : (i : Int) < (r : Int) := by omega
  obtain ⟨ad, pp, p, rfl, hpe, hpp, -, p0⟩ := rd_int hp (k := i) (by omega)
  have hat := atP_get hpe
  obtain ⟨k0, k1, k2, k3⟩ := hk.cells
  have hn9 : nv[i]? = some nv[i] := List.getElem?_eq_getElem (by omega)
  have n0 := h.n.cell hn9
  have ha9 : ac[i]? = some ac[i] := List.getElem?_eq_getElem (by omega)
  have a0 := h.a.cell ha9
  obtain ⟨g0, hgr⟩ := h.clash hi
  obtain ⟨wa, wp, hwa, hwp, w0⟩ := h.wrow hi
  rw [hwa] at k3
  have HRP : Hid (∀ s ∈ cl i, ∃ q pq, s = ((q : Nat) : Int) ∧ q < r ∧ ad.add q = pq ∧ W.cell? pq = some (.int .i64 (atP ps s))) := Lib.hid fun s hs => by
    obtain ⟨h0, h1⟩ := hcl i s hs
    obtain ⟨q, rfl⟩ := Int.eq_ofNat_of_zero_le h0
    obtain ⟨ad', pq, x, e, hx, hpq, -, hc⟩ := rd_int hp (k := q) (by omega)
    obtain rfl := Option.some.inj e
    exact ⟨q, pq, rfl, by omega, hpq, by rw [atP_get hx]; exact hc⟩
  have HPS : Hid (∀ q, q < r → ∃ pq, ad.add q = pq ∧ W.cell? pq = some (.int .i64 (atP ps q))) := Lib.hid fun q hq => by
    obtain ⟨ad', pq, x, e, hx, hpq, -, hc⟩ := rd_int hp (k := q) (by omega)
    obtain rfl := Option.some.inj e
    exact ⟨pq, hpq, by rw [atP_get hx]; exact hc⟩
  have HM := Lib.hid (h.m i hi)
  have hcl9 := hcn i
  have hclI : ((cl i).length : Int) ≤ 4096 := by omega
  have HN9 := Lib.hid hn9
  have HA9 := Lib.hid ha9
  have HAT := Lib.hid hat
  clear h hk hp hn9 ha9 hat hpe hcl hcn hwa
  by_cases hneg : p < 0
  · have HEND : Hid (SaysR (RightP cl nv ac L r ps i) W (.returned (.bool nv[i])) W) := Lib.hid ⟨nv[i], rfl, by
      unfold RightP
      rw [HAT.out, HN9.out]
      constructor
      · intro e
        exact ⟨fun _ => by rw [e], fun h => by omega⟩
      · intro e
        exact Option.some.inj (e.1 hneg), rfl⟩
    go_enter Tryz.func39, Tryz.ntmps39
    go_wp2_with fail
    go_ret
    exact HEND.out
  · have hpos : 0 ≤ p := by omega
    have HNO : Hid (p ≤ 3 ∧ ac[i] = true → ¬ RightP cl nv ac L r ps i) := Lib.hid fun h9 h8 => by
      unfold RightP at h8
      rw [HAT.out] at h8
      exact (h8.2 hpos).1 ⟨h9.1, by rw [HA9.out, h9.2]⟩
    have HHIT : Hid (∀ s ∈ cl i, atP ps s = p → ¬ RightP cl nv ac L r ps i) := Lib.hid fun s hs he h8 => by
      unfold RightP at h8
      rw [HAT.out] at h8
      exact (h8.2 hpos).2.1 s hs he
    have HHIT2 : Hid (16 ≤ p → ∀ s : Nat, s < r → ((i : Int), (s : Int)) ∈ L → atP ps s = p → ¬ RightP cl nv ac L r ps i) := Lib.hid fun h16 s hs hm he h8 => by
      unfold RightP at h8
      rw [HAT.out] at h8
      exact (h8.2 hpos).2.2 h16 s hs hm he
    have HYES : Hid (¬ (p ≤ 3 ∧ ac[i] = true) → NoHit (cl i) ps p (cl i).length → (16 ≤ p → NoHit2 L i ps p r) → RightP cl nv ac L r ps i) := Lib.hid fun h1 h2 h3 => by
      unfold RightP
      rw [HAT.out]
      refine ⟨fun h => by omega, fun _ => ⟨fun h9 => h1 ⟨h9.1, by have := h9.2; rw [HA9.out] at this; exact Option.some.inj this⟩, fun s hs => h2 s (by rw [List.take_length]; exact hs), h3⟩⟩
    clear HAT HN9 HA9 hneg n0
    generalize F.A i = Ai at *
    generalize F.c i = ci at *
    generalize F.wb i = wbi at *
    by_cases h3 : p ≤ 3 ∧ ac[i] = true
    · have HEND := Lib.hid (says_no (w := W) (HNO.out h3))
      rw [h3.2] at a0
      have h3a := h3.1
      clear h3 HNO HHIT HHIT2 HYES
      go_enter Tryz.func39, Tryz.ntmps39
      go_wp2_with fail
      go_ret
      exact HEND.out
    · have HY2 := Lib.hid (HYES.out h3)
      have hcase : (p ≤ 3 ∧ ac[i] = false) ∨ ¬ p ≤ 3 := by
        by_cases h9 : p ≤ 3
        · exact .inl ⟨h9, by simpa [h9] using h3⟩
        · exact .inr h9
      clear h3 HNO HYES
      rcases hcase with ⟨h3, ha⟩ | h3
      all_goals
        first
        | rw [ha] at a0
        | skip
        try clear ha
        go_enter Tryz.func39, Tryz.ntmps39
        go_wp2_with fail
        go_loopg [44] (cl i).length (fun N t wr => ∃ j, j ≤ (cl i).length ∧ N = (cl i).length - j ∧ t = .int .i64 j ∧ W = wr ∧ NoHit (cl i) ps p j)
        case atStart => exact ⟨0, by omega, rfl, rfl, rfl, fun s hs => by simp at hs⟩
        case round =>
          obtain ⟨j, hj, rfl, rfl, rfl, hno⟩ := hrel
          by_cases hlj : j < (cl i).length
          · have hljI : (j : Int) < ((cl i).length : Int) := by omega
            obtain ⟨ad2, p2, s, rfl, hs, hp2, -, c0⟩ := rd_int hgr hlj
            have hsm := List.mem_of_getElem? hs
            obtain ⟨q, pq, rfl, hq, hpq, d0⟩ := HRP.out s hsm
            have hqI : (q : Int) < (r : Int) := by omega
            have HNS := Lib.hid (fun hne => hno.snoc hs hne)
            have HH := Lib.hid (HHIT.out _ hsm)
            clear hno hs hsm
            generalize atP ps q = u at *
            cases hb : (u == p) with
            | true =>
              have HEND := Lib.hid (says_no (w := W) (HH.out (by simpa using hb)))
              go_wp2_with fail
              go_ret
              exact HEND.out
            | false =>
              have HN := Lib.hid (HNS.out (by simpa using hb))
              go_wp2_with fail
              go_roundg ((cl i).length - (j + 1))
              case measure => omega
              case rel => exact ⟨j + 1, by omega, rfl, by go_num, rfl, HN.out⟩
          · obtain rfl : j = (cl i).length := by omega
            have HY3 := Lib.hid (HY2.out hno)
            clear hno HHIT HY2 hgr
            by_cases h16 : 16 ≤ p
            · try (exfalso; omega)
              all_goals
                have HY4 := Lib.hid (fun h => HY3.out (fun _ => h))
                have HH2 := Lib.hid (HHIT2.out h16)
                clear HHIT2 HY3
                go_wp2_with fail
                go_loopg [65] r (fun N t wr => ∃ j, j ≤ r ∧ N = r - j ∧ t = .int .i64 j ∧ W = wr ∧ NoHit2 L i ps p j)
                case atStart => exact ⟨0, by omega, rfl, rfl, rfl, fun s hs => by omega⟩
                case round =>
                  obtain ⟨j, hj, rfl, rfl, rfl, hno⟩ := hrel
                  by_cases hlj : j < r
                  · have hljI : (j : Int) < (r : Int) := by omega
                    have m0 := HM.out.1.cell (mrow_get L i hlj)
                    obtain ⟨pq, hpq, d0⟩ := HPS.out j hlj
                    have HNS := Lib.hid (fun hne => hno.snoc hne)
                    have HH := Lib.hid (HH2.out j hlj)
                    clear hno
                    generalize atP ps j = u at *
                    by_cases hm : ((i : Int), (j : Int)) ∈ L
                    · rw [decide_eq_true hm] at m0
                      cases hb : (u == p) with
                      | true =>
                        have HEND := Lib.hid (says_no (w := W) (HH.out hm (by simpa using hb)))
                        clear hm
                        go_wp2_with fail
                        go_ret
                        exact HEND.out
                      | false =>
                        have HN := Lib.hid (HNS.out (fun _ => by simpa using hb))
                        clear hm
                        go_wp2_with fail
                        go_roundg (r - (j + 1))
                        case measure => omega
                        case rel => exact ⟨j + 1, by omega, rfl, by go_num, rfl, HN.out⟩
                    · rw [decide_eq_false hm] at m0
                      have HN := Lib.hid (HNS.out (fun h => absurd h hm))
                      clear hm
                      go_wp2_with fail
                      go_roundg (r - (j + 1))
                      case measure => omega
                      case rel => exact ⟨j + 1, by omega, rfl, by go_num, rfl, HN.out⟩
                  · obtain rfl : j = r := by omega
                    have HEND := Lib.hid (says_yes (w := W) (HY4.out hno))
                    clear hno
                    go_wp2_with fail
                    go_ret
                    exact HEND.out
            · have HEND := Lib.hid (says_yes (w := W) (HY3.out (fun h => absurd h h16)))
              go_wp2_with fail
              go_ret
              exact HEND.out
end Go.Proofs.YthgbmhpfblgjcaaGreatDoor.fl
