/-
  The law BlockTells of package catapultlaw14, as a contract. Conditions: the table of keywords stands in memory; the list of calls reads as told.
-/
import Derived.Test.YtejhphnlickjlaaDoorBmT
import Derived.BigQuiet
import Derived.Deep.LoopGhost
set_option linter.unusedVariables false
set_option linter.unusedSimpArgs false
namespace Go.Proofs.YtejhphnlickjlaaDoor.bl
open Go.RowKit
open M ty
set_option linter.unusedVariables false
/-- a method that writes, or is refused; what stands behind it -/
def AtW2 (B g N : Nat) (st : St) (L : Lay) (f : FuncId) (args : Array Value) (st' : St) (E : Int) : Prop := ∀ W, Sto W B g N st L → KeysIn W → Calls Tryd.prog f args W fun e w' => e = .returned (.int .i64 E) ∧ Sto w' B g (N + 1) st' L ∧ Fr W w' g L st.bl.length
/-- what a store of n bytes leaves as it was -/
structure Left (st st' : St) (E pi po n : Int) : Prop where
  lives : ∀ m, livesAt st' m = livesAt st m
  len : ∀ m, (bsAt st' m).length = (bsAt st m).length
  max : ∀ m, (bsAt st m).length ≤ 131072
  same : ∀ (m i : Nat) (x y : By), (bsAt st m)[i]? = some x → (bsAt st' m)[i]? = some y → x = y ∨ (E = 0 ∧ pi = (m : Int) + 1 ∧ po ≤ (i : Int) ∧ (i : Int) < po + n)
  bd : E = 0 → 0 ≤ po ∧ po ≤ 131072
def EndT (B g N : Nat) (st' : St) (L : Lay) (pk pi po vk vi vo : Int) (s : ByteArray) : Prop := AtK B g (N + 1) st' L 22 #[.pointer (some ⟨g, 0, none⟩), .agg #[.int .i64 pk, .int .i64 pi, .int .i64 po], .string s] (.tuple #[.agg #[.int .i64 vk, .int .i64 vi, .int .i64 vo], .int .i64 0]) ∧ livesB st' pi = true ∧ -9223372036854775808 ≤ pi ∧ pi ≤ 9223372036854775807
def TelS (B g N : Nat) (st : St) (L : Lay) (pk pi po vk vi vo n : Int) (s : ByteArray) : Prop := ∃ E st', AtW2 B g N st L 25 #[.pointer (some ⟨g, 0, none⟩), .agg #[.int .i64 pk, .int .i64 pi, .int .i64 po], .string s, .agg #[.int .i64 vk, .int .i64 vi, .int .i64 vo]] st' E ∧ Left st st' E pi po n ∧ ((E != 0) = true ∧ (E == 0) = false ∨ E = 0 ∧ EndT B g N st' L pk pi po vk vi vo s)
def MadeT (w : World) (pk pi po vk vi vo n : Int) (s : ByteArray) (A : Option Addr) (m cap : Nat) : Prop := ∀ W, EnvQ w W pk pi po vk vi vo → Calls Tryd.prog 21 #[.slice A m cap] W fun e w' => ∃ B g N st L, e = .returned (.pointer (some ⟨g, 0, none⟩)) ∧ Below W.heap.size W w' ∧ Sto w' B g N st L ∧ W.heap.size ≤ B ∧ KeysIn w' ∧ TelS B g N st L pk pi po vk vi vo n s
theorem wrap_in (x : Int) (h0 : -9223372036854775808 ≤ x) (h1 : x ≤ 9223372036854775807) : wrap64 x = x := IntWalk.wrap64_in _ (by omega)
section
variable {w : World} {pk pi po vk vi vo n : Int} {s : ByteArray} {A : Option Addr} {m cap : Nat}
set_option maxRecDepth 20000 in
set_option maxHeartbeats 40000000 in
theorem tells_walk (HW : Hid (WorksC w pk pi po vk vi vo)) (HM : Hid (MadeT w pk pi po vk vi vo n s A m cap)) (hn : (s.toList == [99]) = true ∧ n = 1 ∨ (s.toList == [99]) = false ∧ (s.toList == [115]) = true ∧ n = 2 ∨ (s.toList == [99]) = false ∧ (s.toList == [115]) = false ∧ n = 4) :
    Calls Tryd.prog 5 #[.slice A m cap, .agg #[.int .i64 pk, .int .i64 pi, .int .i64 po], .string s, .agg #[.int .i64 vk, .int .i64 vi, .int .i64 vo]] w fun e w' => e = .returned (.bool true) ∧ Below w.heap.size w w' := by
  have hgv := grdV
  have hev := eqE
  have hgb := grdB
  have heb := eqB
  rcases hn with ⟨a0, rfl⟩ | ⟨a0, a1, rfl⟩ | ⟨a0, a1, rfl⟩
  · go_enter Tryd.func5, Tryd.ntmps5
    go_wp2_with (first
      | (go_at_call 20; refine (HW.out _ (EnvQ.new w pk pi po vk vi vo)).mono ?_; rintro e w0 ⟨rfl, hb⟩; have H := Lib.hid ((EnvQ.new w pk pi po vk vi vo).after hb); clear hb)
      | (go_at_call 21; refine (HM.out _ H.out).mono ?_; rintro e w0 ⟨B, g, N, st, L, rfl, hb, hs, hB, hky, hcs⟩; have h : LawF w w0 B g N st L pk pi po vk vi vo := ⟨H.out.after hb, hs, by have := (Array.getElem?_eq_some_iff.1 H.out.q).1; omega, hky⟩; (try clear H); have H := Lib.hid h; have HCS := Lib.hid hcs; clear h hb hs hB hky hcs))
    obtain ⟨E, st', h25, hlf, hend⟩ := HCS.out
    have H25 := Lib.hid h25
    have HLF := Lib.hid hlf
    have HEND := Lib.hid hend
    clear h25 hlf hend HCS
    go_wp2_with (go_at_call 26; refine (all_any H.out.sto).mono ?_; rintro e w1 ⟨A1, c1, A1', c1', vs, rfl, hA⟩; have HMI : Hid (∀ q, Mine g L st.bl.length q → q < w0.heap.size) := Lib.hid (fun q hq => H.out.sto.mine_lt hq); have h := H.out.after hA.below; obtain ⟨a1, a1', rfl, rfl, ht⟩ := hA.told; (try clear H); have H := Lib.hid h; have HT := Lib.hid ht; clear h ht hA; obtain ⟨k0, k1, k2, k3, k4, k5⟩ := H.out.e.cells)
    go_wp2_with (go_at_call 25; refine (H25.out _ H.out.sto H.out.keys).mono ?_; rintro e w2 ⟨rfl, hs, hf⟩; have h := H.out.wrote hf hs; have ht := HT.out.wrote HMI.out hf; clear k0 k1 k2 k3 k4 k5; (try clear H); have H := Lib.hid h; (try clear HT); have HT := Lib.hid ht; clear h ht hs hf H25)
    go_wp2_with (go_at_call 26; refine (all_any H.out.sto).mono ?_; rintro e w3 ⟨A2, c2, A2', c2', vs2, rfl, hA⟩; have h := H.out.after hA.below; have ht := HT.out.after hA.below; obtain ⟨a2, a2', rfl, rfl, hu⟩ := hA.told; (try clear H); have H := Lib.hid h; (try clear HT); have HT := Lib.hid ht; have HU := Lib.hid hu; clear h ht hu hA)
    rcases HEND.out with ⟨hE1, hE0⟩ | ⟨rfl, hend⟩
    · clear HEND
      have hE := hE0
      go_loopg [45] 12 (fun N t wr => ∃ b : Nat, b ≤ 12 ∧ N = 12 - b ∧ t = .int .i64 b ∧ Below w3.heap.size w3 wr)
      case atStart => exact ⟨0, by omega, rfl, rfl, Below.refl _ _⟩
      case round =>
        obtain ⟨b, hb12, rfl, rfl, hbw⟩ := hrel
        have HBW := Lib.hid hbw
        clear hbw
        by_cases hlt : b < 12
        · have hltI : (b : Int) < 12 := by omega
          obtain ⟨X, cx, hx, hX⟩ := (HT.out.after HBW.out).row b hlt
          obtain ⟨Y, cy, hy, hY⟩ := (HU.out.after HBW.out).row b hlt
          have hl := (HT.out.after HBW.out).lives b hlt
          have hl2 := (HU.out.after HBW.out).lives b hlt
          rw [HLF.out.len] at hy
          rw [HLF.out.lives] at hl2
          have hmax := HLF.out.max b
          generalize hbl : (bsAt st b).length = nb at *
          have HBL := Lib.hid hbl
          clear hbl hX hY
          generalize livesAt st b = lv at *
          go_wp2_with fail
          go_quiet (fail)
          go_wp2_with fail
          clear hx hy hl hl2
          go_loopg [75] nb (fun N t wr => ∃ i : Nat, i ≤ nb ∧ N = nb - i ∧ t = .int .i64 i ∧ Below w3.heap.size w3 wr)
          case atStart => exact ⟨0, by omega, rfl, rfl, belowN HBW.out nq⟩
          case round =>
            obtain ⟨i, hin, rfl, rfl, hbi⟩ := hrel
            have HBI := Lib.hid hbi
            clear hbi
            by_cases hli : i < nb
            · have hliI : (i : Int) < (nb : Int) := by omega
              obtain ⟨X, cx, hx, hX⟩ := (HT.out.after HBI.out).row b hlt
              obtain ⟨Y, cy, hy, hY⟩ := (HU.out.after HBI.out).row b hlt
              rw [HLF.out.len, HBL.out] at hy
              rw [HBL.out] at hx
              obtain ⟨x, rfl, -, -, hbx⟩ := hX (by rw [HBL.out]; omega)
              obtain ⟨y, rfl, -, -, hby⟩ := hY (by rw [HLF.out.len, HBL.out]; omega)
              have hi1 : i < (bsAt st b).length := by rw [HBL.out]; exact hli
              have hi2 : i < (bsAt st' b).length := by rw [HLF.out.len, HBL.out]; exact hli
              have g1 : (bsAt st b)[i]? = some (bsAt st b)[i] := List.getElem?_eq_getElem hi1
              have g2 : (bsAt st' b)[i]? = some (bsAt st' b)[i] := List.getElem?_eq_getElem hi2
              have hsame := HLF.out.same b i _ _ g1 g2
              obtain ⟨p0, p1, p2, p3, p4, p5⟩ := hbx i _ g1
              obtain ⟨q0, q1, q2, q3, q4, q5⟩ := hby i _ g2
              generalize (bsAt st b)[i] = bx at *
              generalize (bsAt st' b)[i] = bz at *
              simp only [Nat.zero_add] at p0 p1 p2 p3 p4 p5 q0 q1 q2 q3 q4 q5
              clear hbx hby hX hY g1 g2 hi1 hi2
              obtain ⟨k0, k1, k2, k3, k4, k5⟩ := (H.out.e.after HBI.out).cells
              have hb1 : bx.eqB bz = true := by rcases hsame with rfl | ⟨h0, _⟩; exact By.eqB_self _; subst h0; simp at hE
              clear hsame
              go_wp2_with fail
              go_quiet (fail)
              go_wp2_with fail
              go_roundg (nb - (i + 1))
              case measure => omega
              case rel => exact ⟨i + 1, by omega, rfl, by go_num, belowN HBI.out nq⟩
            · obtain rfl : i = nb := by omega
              go_wp2_with fail
              go_roundg (12 - (b + 1))
              case measure => omega
              case rel => exact ⟨b + 1, by omega, rfl, by go_num, HBI.out⟩
        · obtain rfl : b = 12 := by omega
          clear HT HU HLF
          obtain ⟨k0, k1, k2, k3, k4, k5⟩ := (H.out.e.after HBW.out).cells
          go_wp2_with fail
          go_ret
          exact ⟨rfl, (H.out.after HBW.out).e.below⟩
    · (try clear HEND)
      have HEND := Lib.hid hend
      clear hend
      obtain ⟨po0, po1⟩ := HLF.out.bd rfl
      go_loopg [45] 12 (fun N t wr => ∃ b : Nat, b ≤ 12 ∧ N = 12 - b ∧ t = .int .i64 b ∧ Below w3.heap.size w3 wr)
      case atStart => exact ⟨0, by omega, rfl, rfl, Below.refl _ _⟩
      case round =>
        obtain ⟨b, hb12, rfl, rfl, hbw⟩ := hrel
        have HBW := Lib.hid hbw
        clear hbw
        by_cases hlt : b < 12
        · have hltI : (b : Int) < 12 := by omega
          obtain ⟨X, cx, hx, hX⟩ := (HT.out.after HBW.out).row b hlt
          obtain ⟨Y, cy, hy, hY⟩ := (HU.out.after HBW.out).row b hlt
          have hl := (HT.out.after HBW.out).lives b hlt
          have hl2 := (HU.out.after HBW.out).lives b hlt
          rw [HLF.out.len] at hy
          rw [HLF.out.lives] at hl2
          have hmax := HLF.out.max b
          generalize hbl : (bsAt st b).length = nb at *
          have HBL := Lib.hid hbl
          clear hbl hX hY
          generalize livesAt st b = lv at *
          go_wp2_with fail
          go_quiet (fail)
          go_wp2_with fail
          clear hx hy hl hl2
          go_loopg [75] nb (fun N t wr => ∃ i : Nat, i ≤ nb ∧ N = nb - i ∧ t = .int .i64 i ∧ Below w3.heap.size w3 wr)
          case atStart => exact ⟨0, by omega, rfl, rfl, belowN HBW.out nq⟩
          case round =>
            obtain ⟨i, hin, rfl, rfl, hbi⟩ := hrel
            have HBI := Lib.hid hbi
            clear hbi
            by_cases hli : i < nb
            · have hliI : (i : Int) < (nb : Int) := by omega
              obtain ⟨X, cx, hx, hX⟩ := (HT.out.after HBI.out).row b hlt
              obtain ⟨Y, cy, hy, hY⟩ := (HU.out.after HBI.out).row b hlt
              rw [HLF.out.len, HBL.out] at hy
              rw [HBL.out] at hx
              obtain ⟨x, rfl, -, -, hbx⟩ := hX (by rw [HBL.out]; omega)
              obtain ⟨y, rfl, -, -, hby⟩ := hY (by rw [HLF.out.len, HBL.out]; omega)
              have hi1 : i < (bsAt st b).length := by rw [HBL.out]; exact hli
              have hi2 : i < (bsAt st' b).length := by rw [HLF.out.len, HBL.out]; exact hli
              have g1 : (bsAt st b)[i]? = some (bsAt st b)[i] := List.getElem?_eq_getElem hi1
              have g2 : (bsAt st' b)[i]? = some (bsAt st' b)[i] := List.getElem?_eq_getElem hi2
              have hsame := HLF.out.same b i _ _ g1 g2
              obtain ⟨p0, p1, p2, p3, p4, p5⟩ := hbx i _ g1
              obtain ⟨q0, q1, q2, q3, q4, q5⟩ := hby i _ g2
              generalize (bsAt st b)[i] = bx at *
              generalize (bsAt st' b)[i] = bz at *
              simp only [Nat.zero_add] at p0 p1 p2 p3 p4 p5 q0 q1 q2 q3 q4 q5
              clear hbx hby hX hY g1 g2 hi1 hi2
              obtain ⟨k0, k1, k2, k3, k4, k5⟩ := (H.out.e.after HBI.out).cells
              by_cases hb1 : bx.eqB bz = true
              · clear hsame
                by_cases c2 : pi = (b : Int) + 1
                · by_cases c3 : po ≤ (i : Int)
                  · by_cases c4 : (i : Int) < po + 1
                    · have d2 : (pi == (b : Int) + 1) = true := (by simpa using c2)
                      clear c2
                      go_wp2_with fail
                      go_quiet (fail)
                      go_wp2_with fail
                      go_roundg (nb - (i + 1))
                      case measure => omega
                      case rel => exact ⟨i + 1, by omega, rfl, by go_num, belowN HBI.out nq⟩
                    · have d2 : (pi == (b : Int) + 1) = true := (by simpa using c2)
                      clear c2
                      go_wp2_with fail
                      go_quiet (fail)
                      go_wp2_with fail
                      go_roundg (nb - (i + 1))
                      case measure => omega
                      case rel => exact ⟨i + 1, by omega, rfl, by go_num, belowN HBI.out nq⟩
                  · have d2 : (pi == (b : Int) + 1) = true := (by simpa using c2)
                    clear c2
                    go_wp2_with fail
                    go_quiet (fail)
                    go_wp2_with fail
                    go_roundg (nb - (i + 1))
                    case measure => omega
                    case rel => exact ⟨i + 1, by omega, rfl, by go_num, belowN HBI.out nq⟩
                · have d2 : (pi == (b : Int) + 1) = false := (by simpa using c2)
                  clear c2
                  go_wp2_with fail
                  go_quiet (fail)
                  go_wp2_with fail
                  go_roundg (nb - (i + 1))
                  case measure => omega
                  case rel => exact ⟨i + 1, by omega, rfl, by go_num, belowN HBI.out nq⟩
              · have hin := hsame.resolve_left (fun e => hb1 (by rw [e]; exact By.eqB_self _))
                replace hb1 : bx.eqB bz = false := by simpa using hb1
                clear hsame
                obtain ⟨_, c2, c3, c4⟩ := hin
                have d2 : (pi == (b : Int) + 1) = true := (by simpa using c2)
                clear c2
                go_wp2_with fail
                go_quiet (fail)
                go_wp2_with fail
                go_roundg (nb - (i + 1))
                case measure => omega
                case rel => exact ⟨i + 1, by omega, rfl, by go_num, belowN HBI.out nq⟩
            · obtain rfl : i = nb := by omega
              go_wp2_with fail
              go_roundg (12 - (b + 1))
              case measure => omega
              case rel => exact ⟨b + 1, by omega, rfl, by go_num, HBI.out⟩
        · obtain rfl : b = 12 := by omega
          clear HT HU HLF
          obtain ⟨k0, k1, k2, k3, k4, k5⟩ := (H.out.e.after HBW.out).cells
          have HH := Lib.hid (H.out.after HBW.out)
          clear H
          go_wp2_with (first
            | (go_at_call 22; refine (HEND.out.1 _ HH.out.sto HH.out.keys).mono ?_; rintro e w4 ⟨rfl, hb⟩; have h0 := HH.out.after hb; have hv := Beside.new h0.sto vk vi vo; have h := h0.alloc (.cells #[.int .i64 vk, .int .i64 vi, .int .i64 vo] 24); clear k0 k1 k2 k3 k4 k5; obtain ⟨k0, k1, k2, k3, k4, k5⟩ := h.e.cells; obtain ⟨v0, v1, v2⟩ := hv.var.cells; (try clear HH); have HH := Lib.hid h; clear h h0 hv hb)
            | (go_at_call 27; refine (lives_any HH.out.sto pi HEND.out.2.2.1 HEND.out.2.2.2).mono ?_; rintro e w5 ⟨rfl, rfl⟩; rw [HEND.out.2.1]))
          go_ret
          exact ⟨rfl, HH.out.e.below⟩
  · go_enter Tryd.func5, Tryd.ntmps5
    go_wp2_with (first
      | (go_at_call 20; refine (HW.out _ (EnvQ.new w pk pi po vk vi vo)).mono ?_; rintro e w0 ⟨rfl, hb⟩; have H := Lib.hid ((EnvQ.new w pk pi po vk vi vo).after hb); clear hb)
      | (go_at_call 21; refine (HM.out _ H.out).mono ?_; rintro e w0 ⟨B, g, N, st, L, rfl, hb, hs, hB, hky, hcs⟩; have h : LawF w w0 B g N st L pk pi po vk vi vo := ⟨H.out.after hb, hs, by have := (Array.getElem?_eq_some_iff.1 H.out.q).1; omega, hky⟩; (try clear H); have H := Lib.hid h; have HCS := Lib.hid hcs; clear h hb hs hB hky hcs))
    obtain ⟨E, st', h25, hlf, hend⟩ := HCS.out
    have H25 := Lib.hid h25
    have HLF := Lib.hid hlf
    have HEND := Lib.hid hend
    clear h25 hlf hend HCS
    go_wp2_with (go_at_call 26; refine (all_any H.out.sto).mono ?_; rintro e w1 ⟨A1, c1, A1', c1', vs, rfl, hA⟩; have HMI : Hid (∀ q, Mine g L st.bl.length q → q < w0.heap.size) := Lib.hid (fun q hq => H.out.sto.mine_lt hq); have h := H.out.after hA.below; obtain ⟨a1, a1', rfl, rfl, ht⟩ := hA.told; (try clear H); have H := Lib.hid h; have HT := Lib.hid ht; clear h ht hA; obtain ⟨k0, k1, k2, k3, k4, k5⟩ := H.out.e.cells)
    go_wp2_with (go_at_call 25; refine (H25.out _ H.out.sto H.out.keys).mono ?_; rintro e w2 ⟨rfl, hs, hf⟩; have h := H.out.wrote hf hs; have ht := HT.out.wrote HMI.out hf; clear k0 k1 k2 k3 k4 k5; (try clear H); have H := Lib.hid h; (try clear HT); have HT := Lib.hid ht; clear h ht hs hf H25)
    go_wp2_with (go_at_call 26; refine (all_any H.out.sto).mono ?_; rintro e w3 ⟨A2, c2, A2', c2', vs2, rfl, hA⟩; have h := H.out.after hA.below; have ht := HT.out.after hA.below; obtain ⟨a2, a2', rfl, rfl, hu⟩ := hA.told; (try clear H); have H := Lib.hid h; (try clear HT); have HT := Lib.hid ht; have HU := Lib.hid hu; clear h ht hu hA)
    rcases HEND.out with ⟨hE1, hE0⟩ | ⟨rfl, hend⟩
    · clear HEND
      have hE := hE0
      go_loopg [45] 12 (fun N t wr => ∃ b : Nat, b ≤ 12 ∧ N = 12 - b ∧ t = .int .i64 b ∧ Below w3.heap.size w3 wr)
      case atStart => exact ⟨0, by omega, rfl, rfl, Below.refl _ _⟩
      case round =>
        obtain ⟨b, hb12, rfl, rfl, hbw⟩ := hrel
        have HBW := Lib.hid hbw
        clear hbw
        by_cases hlt : b < 12
        · have hltI : (b : Int) < 12 := by omega
          obtain ⟨X, cx, hx, hX⟩ := (HT.out.after HBW.out).row b hlt
          obtain ⟨Y, cy, hy, hY⟩ := (HU.out.after HBW.out).row b hlt
          have hl := (HT.out.after HBW.out).lives b hlt
          have hl2 := (HU.out.after HBW.out).lives b hlt
          rw [HLF.out.len] at hy
          rw [HLF.out.lives] at hl2
          have hmax := HLF.out.max b
          generalize hbl : (bsAt st b).length = nb at *
          have HBL := Lib.hid hbl
          clear hbl hX hY
          generalize livesAt st b = lv at *
          go_wp2_with fail
          go_quiet (fail)
          go_wp2_with fail
          clear hx hy hl hl2
          go_loopg [75] nb (fun N t wr => ∃ i : Nat, i ≤ nb ∧ N = nb - i ∧ t = .int .i64 i ∧ Below w3.heap.size w3 wr)
          case atStart => exact ⟨0, by omega, rfl, rfl, belowN HBW.out nq⟩
          case round =>
            obtain ⟨i, hin, rfl, rfl, hbi⟩ := hrel
            have HBI := Lib.hid hbi
            clear hbi
            by_cases hli : i < nb
            · have hliI : (i : Int) < (nb : Int) := by omega
              obtain ⟨X, cx, hx, hX⟩ := (HT.out.after HBI.out).row b hlt
              obtain ⟨Y, cy, hy, hY⟩ := (HU.out.after HBI.out).row b hlt
              rw [HLF.out.len, HBL.out] at hy
              rw [HBL.out] at hx
              obtain ⟨x, rfl, -, -, hbx⟩ := hX (by rw [HBL.out]; omega)
              obtain ⟨y, rfl, -, -, hby⟩ := hY (by rw [HLF.out.len, HBL.out]; omega)
              have hi1 : i < (bsAt st b).length := by rw [HBL.out]; exact hli
              have hi2 : i < (bsAt st' b).length := by rw [HLF.out.len, HBL.out]; exact hli
              have g1 : (bsAt st b)[i]? = some (bsAt st b)[i] := List.getElem?_eq_getElem hi1
              have g2 : (bsAt st' b)[i]? = some (bsAt st' b)[i] := List.getElem?_eq_getElem hi2
              have hsame := HLF.out.same b i _ _ g1 g2
              obtain ⟨p0, p1, p2, p3, p4, p5⟩ := hbx i _ g1
              obtain ⟨q0, q1, q2, q3, q4, q5⟩ := hby i _ g2
              generalize (bsAt st b)[i] = bx at *
              generalize (bsAt st' b)[i] = bz at *
              simp only [Nat.zero_add] at p0 p1 p2 p3 p4 p5 q0 q1 q2 q3 q4 q5
              clear hbx hby hX hY g1 g2 hi1 hi2
              obtain ⟨k0, k1, k2, k3, k4, k5⟩ := (H.out.e.after HBI.out).cells
              have hb1 : bx.eqB bz = true := by rcases hsame with rfl | ⟨h0, _⟩; exact By.eqB_self _; subst h0; simp at hE
              clear hsame
              go_wp2_with fail
              go_quiet (fail)
              go_wp2_with fail
              go_roundg (nb - (i + 1))
              case measure => omega
              case rel => exact ⟨i + 1, by omega, rfl, by go_num, belowN HBI.out nq⟩
            · obtain rfl : i = nb := by omega
              go_wp2_with fail
              go_roundg (12 - (b + 1))
              case measure => omega
              case rel => exact ⟨b + 1, by omega, rfl, by go_num, HBI.out⟩
        · obtain rfl : b = 12 := by omega
          clear HT HU HLF
          obtain ⟨k0, k1, k2, k3, k4, k5⟩ := (H.out.e.after HBW.out).cells
          go_wp2_with fail
          go_ret
          exact ⟨rfl, (H.out.after HBW.out).e.below⟩
    · (try clear HEND)
      have HEND := Lib.hid hend
      clear hend
      obtain ⟨po0, po1⟩ := HLF.out.bd rfl
      go_loopg [45] 12 (fun N t wr => ∃ b : Nat, b ≤ 12 ∧ N = 12 - b ∧ t = .int .i64 b ∧ Below w3.heap.size w3 wr)
      case atStart => exact ⟨0, by omega, rfl, rfl, Below.refl _ _⟩
      case round =>
        obtain ⟨b, hb12, rfl, rfl, hbw⟩ := hrel
        have HBW := Lib.hid hbw
        clear hbw
        by_cases hlt : b < 12
        · have hltI : (b : Int) < 12 := by omega
          obtain ⟨X, cx, hx, hX⟩ := (HT.out.after HBW.out).row b hlt
          obtain ⟨Y, cy, hy, hY⟩ := (HU.out.after HBW.out).row b hlt
          have hl := (HT.out.after HBW.out).lives b hlt
          have hl2 := (HU.out.after HBW.out).lives b hlt
          rw [HLF.out.len] at hy
          rw [HLF.out.lives] at hl2
          have hmax := HLF.out.max b
          generalize hbl : (bsAt st b).length = nb at *
          have HBL := Lib.hid hbl
          clear hbl hX hY
          generalize livesAt st b = lv at *
          go_wp2_with fail
          go_quiet (fail)
          go_wp2_with fail
          clear hx hy hl hl2
          go_loopg [75] nb (fun N t wr => ∃ i : Nat, i ≤ nb ∧ N = nb - i ∧ t = .int .i64 i ∧ Below w3.heap.size w3 wr)
          case atStart => exact ⟨0, by omega, rfl, rfl, belowN HBW.out nq⟩
          case round =>
            obtain ⟨i, hin, rfl, rfl, hbi⟩ := hrel
            have HBI := Lib.hid hbi
            clear hbi
            by_cases hli : i < nb
            · have hliI : (i : Int) < (nb : Int) := by omega
              obtain ⟨X, cx, hx, hX⟩ := (HT.out.after HBI.out).row b hlt
              obtain ⟨Y, cy, hy, hY⟩ := (HU.out.after HBI.out).row b hlt
              rw [HLF.out.len, HBL.out] at hy
              rw [HBL.out] at hx
              obtain ⟨x, rfl, -, -, hbx⟩ := hX (by rw [HBL.out]; omega)
              obtain ⟨y, rfl, -, -, hby⟩ := hY (by rw [HLF.out.len, HBL.out]; omega)
              have hi1 : i < (bsAt st b).length := by rw [HBL.out]; exact hli
              have hi2 : i < (bsAt st' b).length := by rw [HLF.out.len, HBL.out]; exact hli
              have g1 : (bsAt st b)[i]? = some (bsAt st b)[i] := List.getElem?_eq_getElem hi1
              have g2 : (bsAt st' b)[i]? = some (bsAt st' b)[i] := List.getElem?_eq_getElem hi2
              have hsame := HLF.out.same b i _ _ g1 g2
              obtain ⟨p0, p1, p2, p3, p4, p5⟩ := hbx i _ g1
              obtain ⟨q0, q1, q2, q3, q4, q5⟩ := hby i _ g2
              generalize (bsAt st b)[i] = bx at *
              generalize (bsAt st' b)[i] = bz at *
              simp only [Nat.zero_add] at p0 p1 p2 p3 p4 p5 q0 q1 q2 q3 q4 q5
              clear hbx hby hX hY g1 g2 hi1 hi2
              obtain ⟨k0, k1, k2, k3, k4, k5⟩ := (H.out.e.after HBI.out).cells
              by_cases hb1 : bx.eqB bz = true
              · clear hsame
                by_cases c2 : pi = (b : Int) + 1
                · by_cases c3 : po ≤ (i : Int)
                  · by_cases c4 : (i : Int) < po + 2
                    · have d2 : (pi == (b : Int) + 1) = true := (by simpa using c2)
                      clear c2
                      go_wp2_with fail
                      go_quiet (fail)
                      go_wp2_with fail
                      go_roundg (nb - (i + 1))
                      case measure => omega
                      case rel => exact ⟨i + 1, by omega, rfl, by go_num, belowN HBI.out nq⟩
                    · have d2 : (pi == (b : Int) + 1) = true := (by simpa using c2)
                      clear c2
                      go_wp2_with fail
                      go_quiet (fail)
                      go_wp2_with fail
                      go_roundg (nb - (i + 1))
                      case measure => omega
                      case rel => exact ⟨i + 1, by omega, rfl, by go_num, belowN HBI.out nq⟩
                  · have d2 : (pi == (b : Int) + 1) = true := (by simpa using c2)
                    clear c2
                    go_wp2_with fail
                    go_quiet (fail)
                    go_wp2_with fail
                    go_roundg (nb - (i + 1))
                    case measure => omega
                    case rel => exact ⟨i + 1, by omega, rfl, by go_num, belowN HBI.out nq⟩
                · have d2 : (pi == (b : Int) + 1) = false := (by simpa using c2)
                  clear c2
                  go_wp2_with fail
                  go_quiet (fail)
                  go_wp2_with fail
                  go_roundg (nb - (i + 1))
                  case measure => omega
                  case rel => exact ⟨i + 1, by omega, rfl, by go_num, belowN HBI.out nq⟩
              · have hin := hsame.resolve_left (fun e => hb1 (by rw [e]; exact By.eqB_self _))
                replace hb1 : bx.eqB bz = false := by simpa using hb1
                clear hsame
                obtain ⟨_, c2, c3, c4⟩ := hin
                have d2 : (pi == (b : Int) + 1) = true := (by simpa using c2)
                clear c2
                go_wp2_with fail
                go_quiet (fail)
                go_wp2_with fail
                go_roundg (nb - (i + 1))
                case measure => omega
                case rel => exact ⟨i + 1, by omega, rfl, by go_num, belowN HBI.out nq⟩
            · obtain rfl : i = nb := by omega
              go_wp2_with fail
              go_roundg (12 - (b + 1))
              case measure => omega
              case rel => exact ⟨b + 1, by omega, rfl, by go_num, HBI.out⟩
        · obtain rfl : b = 12 := by omega
          clear HT HU HLF
          obtain ⟨k0, k1, k2, k3, k4, k5⟩ := (H.out.e.after HBW.out).cells
          have HH := Lib.hid (H.out.after HBW.out)
          clear H
          go_wp2_with (first
            | (go_at_call 22; refine (HEND.out.1 _ HH.out.sto HH.out.keys).mono ?_; rintro e w4 ⟨rfl, hb⟩; have h0 := HH.out.after hb; have hv := Beside.new h0.sto vk vi vo; have h := h0.alloc (.cells #[.int .i64 vk, .int .i64 vi, .int .i64 vo] 24); clear k0 k1 k2 k3 k4 k5; obtain ⟨k0, k1, k2, k3, k4, k5⟩ := h.e.cells; obtain ⟨v0, v1, v2⟩ := hv.var.cells; (try clear HH); have HH := Lib.hid h; clear h h0 hv hb)
            | (go_at_call 27; refine (lives_any HH.out.sto pi HEND.out.2.2.1 HEND.out.2.2.2).mono ?_; rintro e w5 ⟨rfl, rfl⟩; rw [HEND.out.2.1]))
          go_ret
          exact ⟨rfl, HH.out.e.below⟩
  · go_enter Tryd.func5, Tryd.ntmps5
    go_wp2_with (first
      | (go_at_call 20; refine (HW.out _ (EnvQ.new w pk pi po vk vi vo)).mono ?_; rintro e w0 ⟨rfl, hb⟩; have H := Lib.hid ((EnvQ.new w pk pi po vk vi vo).after hb); clear hb)
      | (go_at_call 21; refine (HM.out _ H.out).mono ?_; rintro e w0 ⟨B, g, N, st, L, rfl, hb, hs, hB, hky, hcs⟩; have h : LawF w w0 B g N st L pk pi po vk vi vo := ⟨H.out.after hb, hs, by have := (Array.getElem?_eq_some_iff.1 H.out.q).1; omega, hky⟩; (try clear H); have H := Lib.hid h; have HCS := Lib.hid hcs; clear h hb hs hB hky hcs))
    obtain ⟨E, st', h25, hlf, hend⟩ := HCS.out
    have H25 := Lib.hid h25
    have HLF := Lib.hid hlf
    have HEND := Lib.hid hend
    clear h25 hlf hend HCS
    go_wp2_with (go_at_call 26; refine (all_any H.out.sto).mono ?_; rintro e w1 ⟨A1, c1, A1', c1', vs, rfl, hA⟩; have HMI : Hid (∀ q, Mine g L st.bl.length q → q < w0.heap.size) := Lib.hid (fun q hq => H.out.sto.mine_lt hq); have h := H.out.after hA.below; obtain ⟨a1, a1', rfl, rfl, ht⟩ := hA.told; (try clear H); have H := Lib.hid h; have HT := Lib.hid ht; clear h ht hA; obtain ⟨k0, k1, k2, k3, k4, k5⟩ := H.out.e.cells)
    go_wp2_with (go_at_call 25; refine (H25.out _ H.out.sto H.out.keys).mono ?_; rintro e w2 ⟨rfl, hs, hf⟩; have h := H.out.wrote hf hs; have ht := HT.out.wrote HMI.out hf; clear k0 k1 k2 k3 k4 k5; (try clear H); have H := Lib.hid h; (try clear HT); have HT := Lib.hid ht; clear h ht hs hf H25)
    go_wp2_with (go_at_call 26; refine (all_any H.out.sto).mono ?_; rintro e w3 ⟨A2, c2, A2', c2', vs2, rfl, hA⟩; have h := H.out.after hA.below; have ht := HT.out.after hA.below; obtain ⟨a2, a2', rfl, rfl, hu⟩ := hA.told; (try clear H); have H := Lib.hid h; (try clear HT); have HT := Lib.hid ht; have HU := Lib.hid hu; clear h ht hu hA)
    rcases HEND.out with ⟨hE1, hE0⟩ | ⟨rfl, hend⟩
    · clear HEND
      have hE := hE0
      go_loopg [45] 12 (fun N t wr => ∃ b : Nat, b ≤ 12 ∧ N = 12 - b ∧ t = .int .i64 b ∧ Below w3.heap.size w3 wr)
      case atStart => exact ⟨0, by omega, rfl, rfl, Below.refl _ _⟩
      case round =>
        obtain ⟨b, hb12, rfl, rfl, hbw⟩ := hrel
        have HBW := Lib.hid hbw
        clear hbw
        by_cases hlt : b < 12
        · have hltI : (b : Int) < 12 := by omega
          obtain ⟨X, cx, hx, hX⟩ := (HT.out.after HBW.out).row b hlt
          obtain ⟨Y, cy, hy, hY⟩ := (HU.out.after HBW.out).row b hlt
          have hl := (HT.out.after HBW.out).lives b hlt
          have hl2 := (HU.out.after HBW.out).lives b hlt
          rw [HLF.out.len] at hy
          rw [HLF.out.lives] at hl2
          have hmax := HLF.out.max b
          generalize hbl : (bsAt st b).length = nb at *
          have HBL := Lib.hid hbl
          clear hbl hX hY
          generalize livesAt st b = lv at *
          go_wp2_with fail
          go_quiet (fail)
          go_wp2_with fail
          clear hx hy hl hl2
          go_loopg [75] nb (fun N t wr => ∃ i : Nat, i ≤ nb ∧ N = nb - i ∧ t = .int .i64 i ∧ Below w3.heap.size w3 wr)
          case atStart => exact ⟨0, by omega, rfl, rfl, belowN HBW.out nq⟩
          case round =>
            obtain ⟨i, hin, rfl, rfl, hbi⟩ := hrel
            have HBI := Lib.hid hbi
            clear hbi
            by_cases hli : i < nb
            · have hliI : (i : Int) < (nb : Int) := by omega
              obtain ⟨X, cx, hx, hX⟩ := (HT.out.after HBI.out).row b hlt
              obtain ⟨Y, cy, hy, hY⟩ := (HU.out.after HBI.out).row b hlt
              rw [HLF.out.len, HBL.out] at hy
              rw [HBL.out] at hx
              obtain ⟨x, rfl, -, -, hbx⟩ := hX (by rw [HBL.out]; omega)
              obtain ⟨y, rfl, -, -, hby⟩ := hY (by rw [HLF.out.len, HBL.out]; omega)
              have hi1 : i < (bsAt st b).length := by rw [HBL.out]; exact hli
              have hi2 : i < (bsAt st' b).length := by rw [HLF.out.len, HBL.out]; exact hli
              have g1 : (bsAt st b)[i]? = some (bsAt st b)[i] := List.getElem?_eq_getElem hi1
              have g2 : (bsAt st' b)[i]? = some (bsAt st' b)[i] := List.getElem?_eq_getElem hi2
              have hsame := HLF.out.same b i _ _ g1 g2
              obtain ⟨p0, p1, p2, p3, p4, p5⟩ := hbx i _ g1
              obtain ⟨q0, q1, q2, q3, q4, q5⟩ := hby i _ g2
              generalize (bsAt st b)[i] = bx at *
              generalize (bsAt st' b)[i] = bz at *
              simp only [Nat.zero_add] at p0 p1 p2 p3 p4 p5 q0 q1 q2 q3 q4 q5
              clear hbx hby hX hY g1 g2 hi1 hi2
              obtain ⟨k0, k1, k2, k3, k4, k5⟩ := (H.out.e.after HBI.out).cells
              have hb1 : bx.eqB bz = true := by rcases hsame with rfl | ⟨h0, _⟩; exact By.eqB_self _; subst h0; simp at hE
              clear hsame
              go_wp2_with fail
              go_quiet (fail)
              go_wp2_with fail
              go_roundg (nb - (i + 1))
              case measure => omega
              case rel => exact ⟨i + 1, by omega, rfl, by go_num, belowN HBI.out nq⟩
            · obtain rfl : i = nb := by omega
              go_wp2_with fail
              go_roundg (12 - (b + 1))
              case measure => omega
              case rel => exact ⟨b + 1, by omega, rfl, by go_num, HBI.out⟩
        · obtain rfl : b = 12 := by omega
          clear HT HU HLF
          obtain ⟨k0, k1, k2, k3, k4, k5⟩ := (H.out.e.after HBW.out).cells
          go_wp2_with fail
          go_ret
          exact ⟨rfl, (H.out.after HBW.out).e.below⟩
    · (try clear HEND)
      have HEND := Lib.hid hend
      clear hend
      obtain ⟨po0, po1⟩ := HLF.out.bd rfl
      go_loopg [45] 12 (fun N t wr => ∃ b : Nat, b ≤ 12 ∧ N = 12 - b ∧ t = .int .i64 b ∧ Below w3.heap.size w3 wr)
      case atStart => exact ⟨0, by omega, rfl, rfl, Below.refl _ _⟩
      case round =>
        obtain ⟨b, hb12, rfl, rfl, hbw⟩ := hrel
        have HBW := Lib.hid hbw
        clear hbw
        by_cases hlt : b < 12
        · have hltI : (b : Int) < 12 := by omega
          obtain ⟨X, cx, hx, hX⟩ := (HT.out.after HBW.out).row b hlt
          obtain ⟨Y, cy, hy, hY⟩ := (HU.out.after HBW.out).row b hlt
          have hl := (HT.out.after HBW.out).lives b hlt
          have hl2 := (HU.out.after HBW.out).lives b hlt
          rw [HLF.out.len] at hy
          rw [HLF.out.lives] at hl2
          have hmax := HLF.out.max b
          generalize hbl : (bsAt st b).length = nb at *
          have HBL := Lib.hid hbl
          clear hbl hX hY
          generalize livesAt st b = lv at *
          go_wp2_with fail
          go_quiet (fail)
          go_wp2_with fail
          clear hx hy hl hl2
          go_loopg [75] nb (fun N t wr => ∃ i : Nat, i ≤ nb ∧ N = nb - i ∧ t = .int .i64 i ∧ Below w3.heap.size w3 wr)
          case atStart => exact ⟨0, by omega, rfl, rfl, belowN HBW.out nq⟩
          case round =>
            obtain ⟨i, hin, rfl, rfl, hbi⟩ := hrel
            have HBI := Lib.hid hbi
            clear hbi
            by_cases hli : i < nb
            · have hliI : (i : Int) < (nb : Int) := by omega
              obtain ⟨X, cx, hx, hX⟩ := (HT.out.after HBI.out).row b hlt
              obtain ⟨Y, cy, hy, hY⟩ := (HU.out.after HBI.out).row b hlt
              rw [HLF.out.len, HBL.out] at hy
              rw [HBL.out] at hx
              obtain ⟨x, rfl, -, -, hbx⟩ := hX (by rw [HBL.out]; omega)
              obtain ⟨y, rfl, -, -, hby⟩ := hY (by rw [HLF.out.len, HBL.out]; omega)
              have hi1 : i < (bsAt st b).length := by rw [HBL.out]; exact hli
              have hi2 : i < (bsAt st' b).length := by rw [HLF.out.len, HBL.out]; exact hli
              have g1 : (bsAt st b)[i]? = some (bsAt st b)[i] := List.getElem?_eq_getElem hi1
              have g2 : (bsAt st' b)[i]? = some (bsAt st' b)[i] := List.getElem?_eq_getElem hi2
              have hsame := HLF.out.same b i _ _ g1 g2
              obtain ⟨p0, p1, p2, p3, p4, p5⟩ := hbx i _ g1
              obtain ⟨q0, q1, q2, q3, q4, q5⟩ := hby i _ g2
              generalize (bsAt st b)[i] = bx at *
              generalize (bsAt st' b)[i] = bz at *
              simp only [Nat.zero_add] at p0 p1 p2 p3 p4 p5 q0 q1 q2 q3 q4 q5
              clear hbx hby hX hY g1 g2 hi1 hi2
              obtain ⟨k0, k1, k2, k3, k4, k5⟩ := (H.out.e.after HBI.out).cells
              by_cases hb1 : bx.eqB bz = true
              · clear hsame
                by_cases c2 : pi = (b : Int) + 1
                · by_cases c3 : po ≤ (i : Int)
                  · by_cases c4 : (i : Int) < po + 4
                    · have d2 : (pi == (b : Int) + 1) = true := (by simpa using c2)
                      clear c2
                      go_wp2_with fail
                      go_quiet (fail)
                      go_wp2_with fail
                      go_roundg (nb - (i + 1))
                      case measure => omega
                      case rel => exact ⟨i + 1, by omega, rfl, by go_num, belowN HBI.out nq⟩
                    · have d2 : (pi == (b : Int) + 1) = true := (by simpa using c2)
                      clear c2
                      go_wp2_with fail
                      go_quiet (fail)
                      go_wp2_with fail
                      go_roundg (nb - (i + 1))
                      case measure => omega
                      case rel => exact ⟨i + 1, by omega, rfl, by go_num, belowN HBI.out nq⟩
                  · have d2 : (pi == (b : Int) + 1) = true := (by simpa using c2)
                    clear c2
                    go_wp2_with fail
                    go_quiet (fail)
                    go_wp2_with fail
                    go_roundg (nb - (i + 1))
                    case measure => omega
                    case rel => exact ⟨i + 1, by omega, rfl, by go_num, belowN HBI.out nq⟩
                · have d2 : (pi == (b : Int) + 1) = false := (by simpa using c2)
                  clear c2
                  go_wp2_with fail
                  go_quiet (fail)
                  go_wp2_with fail
                  go_roundg (nb - (i + 1))
                  case measure => omega
                  case rel => exact ⟨i + 1, by omega, rfl, by go_num, belowN HBI.out nq⟩
              · have hin := hsame.resolve_left (fun e => hb1 (by rw [e]; exact By.eqB_self _))
                replace hb1 : bx.eqB bz = false := by simpa using hb1
                clear hsame
                obtain ⟨_, c2, c3, c4⟩ := hin
                have d2 : (pi == (b : Int) + 1) = true := (by simpa using c2)
                clear c2
                go_wp2_with fail
                go_quiet (fail)
                go_wp2_with fail
                go_roundg (nb - (i + 1))
                case measure => omega
                case rel => exact ⟨i + 1, by omega, rfl, by go_num, belowN HBI.out nq⟩
            · obtain rfl : i = nb := by omega
              go_wp2_with fail
              go_roundg (12 - (b + 1))
              case measure => omega
              case rel => exact ⟨b + 1, by omega, rfl, by go_num, HBI.out⟩
        · obtain rfl : b = 12 := by omega
          clear HT HU HLF
          obtain ⟨k0, k1, k2, k3, k4, k5⟩ := (H.out.e.after HBW.out).cells
          have HH := Lib.hid (H.out.after HBW.out)
          clear H
          go_wp2_with (first
            | (go_at_call 22; refine (HEND.out.1 _ HH.out.sto HH.out.keys).mono ?_; rintro e w4 ⟨rfl, hb⟩; have h0 := HH.out.after hb; have hv := Beside.new h0.sto vk vi vo; have h := h0.alloc (.cells #[.int .i64 vk, .int .i64 vi, .int .i64 vo] 24); clear k0 k1 k2 k3 k4 k5; obtain ⟨k0, k1, k2, k3, k4, k5⟩ := h.e.cells; obtain ⟨v0, v1, v2⟩ := hv.var.cells; (try clear HH); have HH := Lib.hid h; clear h h0 hv hb)
            | (go_at_call 27; refine (lives_any HH.out.sto pi HEND.out.2.2.1 HEND.out.2.2.2).mono ?_; rintro e w5 ⟨rfl, rfl⟩; rw [HEND.out.2.1]))
          go_ret
          exact ⟨rfl, HH.out.e.below⟩
end
end Go.Proofs.YtejhphnlickjlaaDoor.bl
namespace Go.Proofs.YtejhphnlickjlaaDoor.bl
open Go.RowKit
open M ty
set_option linter.unusedVariables false
theorem left_refl {st : St} (hm : ∀ b ∈ st.bl, b.bs.length ≤ 131072) {E pi po n : Int} (hE : E ≠ 0) : Left st st E pi po n :=
  ⟨fun _ => rfl, fun _ => rfl, fun m => by
    unfold bsAt
    cases h : st.bl[m]? with
    | none => simp
    | some b => exact hm b (List.mem_of_getElem? h), fun m i x y h1 h2 => .inl (Option.some.inj (h1.symm.trans h2)), fun h => absurd h hE⟩
theorem bsAt_max {st : St} (hm : ∀ b ∈ st.bl, b.bs.length ≤ 131072) (m : Nat) : (bsAt st m).length ≤ 131072 := by
  unfold bsAt
  cases h : st.bl[m]? with
  | none => simp
  | some b => exact hm b (List.mem_of_getElem? h)
theorem left_put {st : St} (hm : ∀ b ∈ st.bl, b.bs.length ≤ 131072) {l : List Int} {k i o a x y n : Int} (h : storeE st l k i o a x y = 0) (hn : n = widthT l) : Left st (st.put (i - 1).toNat o.toNat (stB (widthT l) a x y)) 0 i o n := by
  obtain ⟨hw, hf, hr, hq, hk⟩ := store_zero h
  obtain ⟨rfl, i1, i2, o0, b, hb, hd, h3, h4⟩ := reach_zero hr
  have hmb := hm b (List.mem_of_getElem? hb)
  have hfit : o.toNat + (stB (widthT l) a x y).length ≤ b.bs.length := by rw [stB_length]; omega
  refine ⟨fun m => put_lives _ _ _ _ m, fun m => (put_bytes hb hfit m).1, bsAt_max hm, fun m j u v hu hv => ?_, fun _ => ⟨o0, by omega⟩⟩
  by_cases hin : m = (i - 1).toNat ∧ o.toNat ≤ j ∧ j < o.toNat + (stB (widthT l) a x y).length
  · rw [stB_length] at hin
    exact .inr ⟨rfl, by omega, by omega, by omega⟩
  · rw [(put_bytes hb hfit m).2 j hin] at hv
    exact .inl (Option.some.inj (hu.symm.trans hv))
theorem width_is {l : List Int} (h : widthT l ≠ 0) : (widthT l : Int) = if l = [99] then 1 else if l = [115] then 2 else 4 := by
  by_cases h0 : l = [99]
  · subst h0; simp [widthT, T.bitsT]
  · by_cases h1 : l = [115]
    · subst h1; simp [widthT, T.bitsT]
    · rw [if_neg h0, if_neg h1]
      unfold widthT at h ⊢
      by_cases hb : T.bitsT l = 0
      · rw [if_neg (fun h => h hb)] at h ⊢
        split
        · rfl
        · rename_i hp; rw [if_neg hp] at h; exact absurd rfl h
      · rcases T.bits_one hb with rfl | rfl | rfl | rfl
        · exact absurd rfl h0
        · exact absurd rfl h1
        · simp [T.bitsT]
        · simp [T.bitsT]
section
variable {B g N : Nat} {st : St} {L : Lay}
theorem tel_of (hN : N + 2 < 1099511627776) (pk pi po vk vi vo : Int) {s : ByteArray} (hs : s.size ≤ maxLen) (hp : In64 pi) (hm : ∀ b ∈ st.bl, b.bs.length ≤ 131072) :
    TelS B g N st L pk pi po vk vi vo (if T.nums s = [99] then 1 else if T.nums s = [115] then 2 else 4) s := by
  by_cases hE : storeE st (T.nums s) pk pi po vk vi vo = 0
  · obtain ⟨hw, hf, hr, hq, hk⟩ := store_zero hE
    refine ⟨0, st.put (pi - 1).toNat po.toNat (stB (widthT (T.nums s)) vk vi vo), fun W hW hK => ?_, left_put hm hE (width_is hw).symm, .inr ⟨rfl, fun W hW hK => ?_, ?_, hp.1, hp.2⟩⟩
    · refine (store_any hW (by omega) hK hs pk pi po vk vi vo hp.1 hp.2).mono fun e w' ⟨h1, h2, h3⟩ => ?_
      rw [hE] at h1
      obtain ⟨h4, h5⟩ := h2 hE
      rw [put_length] at h5
      exact ⟨h1, h4, h5⟩
    · have := load_any hW hK s hs pk pi po hp.1 hp.2
      rw [load_store hE] at this
      exact this
    · obtain ⟨rfl, i1, i2, o0, b, hb, hd, h3, h4⟩ := reach_zero hr
      obtain ⟨j, rfl⟩ : ∃ j : Nat, pi = (j : Int) + 1 := ⟨(pi - 1).toNat, by omega⟩
      rw [lives_at, put_lives]
      rw [show ((j : Int) + 1 - 1).toNat = j by omega] at hb
      unfold livesAt
      rw [hb]
      simp [hd]
  · refine ⟨storeE st (T.nums s) pk pi po vk vi vo, st, fun W hW hK => ?_, left_refl hm hE, .inl ⟨by simpa using hE, by simpa using hE⟩⟩
    refine (store_any hW (by omega) hK hs pk pi po vk vi vo hp.1 hp.2).mono fun e w' ⟨h1, h2, h3⟩ => ?_
    have hb := h3 hE
    exact ⟨h1, (hW.below hb).more (Nat.le_succ _), .of_below hb⟩
end
theorem tells_law (A : Option Addr) (m c : Nat) (l : List Ac) (pk pi po : Int) (s : ByteArray) (vk vi vo : Int) (w : World) (hK : KeysIn w) (hA : Rd w w.heap.size A (acs l)) (hl : l.length = m) (hO : ∀ x ∈ l, AcOk x) (hm : m + 2 < 1099511627776)
    (hs : s.size ≤ maxLen) (hp : In64 pi) :
    Calls Tryd.prog 5 #[.slice A m c, .agg #[.int .i64 pk, .int .i64 pi, .int .i64 po], .string s, .agg #[.int .i64 vk, .int .i64 vi, .int .i64 vo]] w fun e w' => e = .returned (.bool true) ∧ Below w.heap.size w w' := by
  refine tells_walk (n := if T.nums s = [99] then 1 else if T.nums s = [115] then 2 else 4) (Lib.hid fun W hW => works_any W (hK.below hW.below)) (Lib.hid fun W hW => ?_) ?_
  · refine (made_any A m c l W (hK.below hW.below) ((hA.below hW.below).more hW.below.size) hl hO (by omega)).mono fun e w' ⟨h1, N, st, L, h2, h3, h4⟩ => ?_
    exact ⟨_, _, N, st, L, h1, h2.below, h2.sto, Nat.le_refl _, h2.keys, tel_of (by omega) pk pi po vk vi vo hs hp (fun b hb => by obtain ⟨j, hj, rfl⟩ := List.mem_iff_getElem.1 hb; exact (h2.sto.body j _ (List.getElem?_eq_getElem hj)).2.2.2.2)⟩
  · have a0 := toList_one s 99 99 rfl
    have a1 := toList_one s 115 115 rfl
    rw [a0, a1]
    by_cases h0 : T.nums s = [99]
    · exact .inl ⟨decide_eq_true h0, by rw [if_pos h0]⟩
    · by_cases h1 : T.nums s = [115]
      · exact .inr (.inl ⟨decide_eq_false h0, decide_eq_true h1, by rw [if_neg h0, if_pos h1]⟩)
      · exact .inr (.inr ⟨decide_eq_false h0, decide_eq_false h1, by rw [if_neg h0, if_neg h1]⟩)
end Go.Proofs.YtejhphnlickjlaaDoor.bl
