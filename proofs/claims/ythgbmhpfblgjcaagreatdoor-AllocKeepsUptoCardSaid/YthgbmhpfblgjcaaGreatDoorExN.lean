/-
  The contracts of function and CheckFunc of package ir.
-/
import Derived.Test.YthgbmhpfblgjcaaGreatDoorPm
set_option linter.unusedVariables false
set_option linter.unusedSimpArgs false
namespace Go.Proofs.YthgbmhpfblgjcaaGreatDoor.fl
open Go.RowKit Go.Shelf
open M T ty
set_option linter.unusedVariables false
theorem sum_take (l : List Bl) (i : Nat) (x : Bl) (h : l[i]? = some x) : opsSum (l.take (i + 1)) = opsSum (l.take i) + x.ops.length := by
  unfold opsSum
  rw [List.take_add_one, h]
  simp
theorem sum_le (l : List Bl) (i : Nat) : opsSum (l.take i) ≤ opsSum l := by
  have h : opsSum l = opsSum (l.take i) + opsSum (l.drop i) := by
    unfold opsSum
    rw [← List.sum_append, ← List.map_append, List.take_append_drop]
  omega
theorem all_take {α : Type} (l : List α) (p : α → Bool) (i : Nat) (x : α) (h : l[i]? = some x) : (l.take (i + 1)).all p = ((l.take i).all p && p x) := by
  rw [List.take_add_one, h]
  simp
theorem all_false {α : Type} {l : List α} {p : α → Bool} {i : Nat} {x : α} (h : l[i]? = some x) (hp : p x = false) : l.all p = false := by
  rw [List.all_eq_false]
  exact ⟨x, List.mem_of_getElem? h, by rw [hp]; decide⟩
theorem fn_bad1 {st : Int} {f : Fn} (h : f.slots.all slotB = false) : fnB st f = false := by unfold fnB; rw [h]; simp
theorem fn_bad2 {st : Int} {f : Fn} (h : f.bl.all (blB f st) = false) : fnB st f = false := by unfold fnB; rw [h]; simp
theorem fn_bad3 {st : Int} {f : Fn} (h : ¬ opsSum f.bl ≤ 4096) : fnB st f = false := by unfold fnB; rw [decide_eq_false h]; simp
/-- a function's parts are no longer than memory is -/
def FnFit (f : Fn) : Prop := ∀ x ∈ f.bl, x.ops.length ≤ 140737488355328 ∧ ∀ o ∈ x.ops, o.text.size ≤ maxLen ∧ o.args.length ≤ maxLen
set_option maxRecDepth 20000 in
set_option maxHeartbeats 40000000 in
theorem fn_body (st : Int) (f : Fn) (L : FLay) (w : World) (hfa : FnAt w w.heap.size f L) (hK : KeysIn w) (HN : Hid (NameF w f L (nameB (nums f.name)))) (hh : headB f = true) (hfit : FnFit f) :
    Calls Tryz.prog 94 #[fnV f L, .int .i64 st] w fun e w' => e = .returned (.bool (fnB st f)) ∧ Below w.heap.size w w' := by
  obtain ⟨SA, sc, BA, bc, OA, oc, AA, ac⟩ := L
  have HE := Lib.hid (EnvF.new w f ⟨SA, sc, BA, bc, OA, oc, AA, ac⟩ hfa hK)
  have hhead := Lib.hid hh
  have HFIT := Lib.hid hfit
  unfold fnV
  unfold headB at hh
  simp only [Bool.and_eq_true, decide_eq_true_eq] at hh
  obtain ⟨hname, hp, h8, hr, h4, hs, h1, hb⟩ := hh
  rw [hname] at HN
  have q1 : ¬ f.params < 0 := by omega
  have q2 : ¬ 8 < f.params := by omega
  have q3 : ¬ f.regs < f.params := by omega
  have q4 : ¬ 4096 < f.regs := by omega
  have q5 : ¬ (256 : Int) < (f.slots.length : Int) := by omega
  have q6 : ¬ (f.bl.length : Int) < 1 := by omega
  have q7 : ¬ (4096 : Int) < (f.bl.length : Int) := by omega
  have HNB := Lib.hid hb
  clear hname hp h8 hr h4 hs h1 hb hfa hK hfit
  simp only
  go_enter Tryz.func94, Tryz.ntmps94
  go_wp2_with (go_at_call 121; refine (HN.out _ HE.out).mono ?_; rintro e w1 ⟨rfl, h1⟩; obtain ⟨c0, c1, c2, c3, c4⟩ := h1.cells; have H := Lib.hid h1; clear h1)
  go_loopg [58] f.slots.length (fun N t wr => ∃ i : Nat, i ≤ f.slots.length ∧ N = f.slots.length - i ∧ t = .int .i64 i ∧ EnvF w wr f ⟨SA, sc, BA, bc, OA, oc, AA, ac⟩ ∧ (f.slots.take i).all slotB = true)
  case atStart => exact ⟨0, by omega, rfl, rfl, H.out, by simp⟩
  case round =>
    obtain ⟨i, hi, rfl, rfl, he, hall⟩ := hrel
    clear c0 c1 c2 c3 c4 H HE
    have H := Lib.hid he
    have HALL := Lib.hid hall
    clear hall
    by_cases hlt : i < f.slots.length
    · have hltI : (i : Int) < (f.slots.length : Int) := by omega
      have hsl : SlotsAt wr w.heap.size SA f.slots := he.fn.slots
      obtain ⟨ad, p, x, rfl, hx, hpp, -, a0, a1, a2⟩ := slot_at hsl hlt
      have HBAD : Hid (slotB x = false → fnB st f = false) := Lib.hid fun hx2 => fn_bad1 (all_false hx hx2)
      have HOK : Hid (slotB x = true → (f.slots.take (i + 1)).all slotB = true) := Lib.hid fun hx2 => by rw [all_take _ _ _ _ hx, HALL.out, hx2]; rfl
      clear he hsl hx
      obtain ⟨by0, al, vo⟩ := x
      simp only at a0 a1 a2
      have HA := Lib.hid (H.out.alloc (.cells #[.int .i64 by0, .int .i64 al, .bool vo] 127))
      by_cases b1 : 1 ≤ by0
      · have n1 : ¬ by0 < 1 := by omega
        by_cases b2 : by0 ≤ 65536
        · have n2 : ¬ 65536 < by0 := by omega
          by_cases e1 : al = 1
          · have HS := Lib.hid (HOK.out (by simp [slotB, b1, b2, e1]))
            have m1 : (al != 1) = false := by simpa using e1
            clear e1 b1 b2
            go_wp2_with fail
            go_roundg (f.slots.length - (i + 1))
            case measure => omega
            case rel => exact ⟨i + 1, by omega, rfl, by go_num, HA.out, HS.out⟩
          · have m1 : (al != 1) = true := by simpa using e1
            by_cases e2 : al = 2
            · have HS := Lib.hid (HOK.out (by simp [slotB, b1, b2, e2]))
              have m2 : (al != 2) = false := by simpa using e2
              clear e1 e2 b1 b2
              go_wp2_with fail
              go_roundg (f.slots.length - (i + 1))
              case measure => omega
              case rel => exact ⟨i + 1, by omega, rfl, by go_num, HA.out, HS.out⟩
            · have m2 : (al != 2) = true := by simpa using e2
              by_cases e4 : al = 4
              · have HS := Lib.hid (HOK.out (by simp [slotB, b1, b2, e4]))
                have m4 : (al != 4) = false := by simpa using e4
                clear e1 e2 e4 b1 b2
                go_wp2_with fail
                go_roundg (f.slots.length - (i + 1))
                case measure => omega
                case rel => exact ⟨i + 1, by omega, rfl, by go_num, HA.out, HS.out⟩
              · have HS := Lib.hid (HBAD.out (by simp [slotB, e1, e2, e4]))
                have m4 : (al != 4) = true := by simpa using e4
                clear e1 e2 e4 b1 b2
                go_wp2_with fail
                go_ret
                exact ⟨ret_bool HS.out.symm, HA.out.below⟩
        · have n2 : 65536 < by0 := by omega
          have HS := Lib.hid (HBAD.out (by simp [slotB, b2]))
          clear b1 b2
          go_wp2_with fail
          go_ret
          exact ⟨ret_bool HS.out.symm, HA.out.below⟩
      · have n1 : by0 < 1 := by omega
        have HS := Lib.hid (HBAD.out (by simp [slotB, b1]))
        clear b1
        go_wp2_with fail
        go_ret
        exact ⟨ret_bool HS.out.symm, HA.out.below⟩
    · obtain rfl : i = f.slots.length := by omega
      rw [List.take_length] at HALL
      have hbb := heap_alloc_new wr (.cells #[.int .i64 f.regs, .int .i64 f.slots.length, .int .i64 st] 177)
      have HB0 : Hid (EnvF w (wr.alloc (.cells #[.int .i64 f.regs, .int .i64 f.slots.length, .int .i64 st] 177)) f ⟨SA, sc, BA, bc, OA, oc, AA, ac⟩ ∧ BoundsAt (wr.alloc (.cells #[.int .i64 f.regs, .int .i64 f.slots.length, .int .i64 st] 177)) wr.heap.size f.regs f.slots.length st) := Lib.hid ⟨H.out.alloc _, hbb⟩
      obtain ⟨c0, c1, c2, c3, c4⟩ := he.cells
      obtain ⟨d0, d1, d2, d3, d4⟩ := HB0.out.1.cells
      have hwl : w.heap.size < wr.heap.size := (Array.getElem?_eq_some_iff.1 he.v).1
      have hwn : w.heap.size ≠ wr.heap.size := by omega
      clear he hbb
      go_wp2_with fail
      clear c0 c1 c2 c3 c4 d0 d1 d2 d3 d4
      generalize hV : wr.heap.size = V at *
      go_loopg [96, 8] f.bl.length (fun N t u wr2 => ∃ i : Nat, i ≤ f.bl.length ∧ N = f.bl.length - i ∧ t = .int .i64 i ∧ u = .int .i64 (opsSum (f.bl.take i) : Nat) ∧ EnvF w wr2 f ⟨SA, sc, BA, bc, OA, oc, AA, ac⟩ ∧ BoundsAt wr2 V f.regs f.slots.length st ∧ (f.bl.take i).all (blB f st) = true ∧ opsSum (f.bl.take i) ≤ 4096)
      case atStart => exact ⟨0, by omega, rfl, rfl, rfl, HB0.out.1, HB0.out.2, by simp, by simp [opsSum]⟩
      case round =>
        obtain ⟨i, hi, rfl, rfl, rfl, he, hv, hall, hsum⟩ := hrel
        have H := Lib.hid he
        have HV := Lib.hid hv
        have HALL2 := Lib.hid hall
        obtain ⟨c0, c1, c2, c3, c4⟩ := he.cells
        have hwl : w.heap.size < wr.heap.size := (Array.getElem?_eq_some_iff.1 he.v).1
        have hwn : w.heap.size ≠ wr.heap.size := by omega
        clear HB0
        by_cases hlt : i < f.bl.length
        · have hltI : (i : Int) < (f.bl.length : Int) := by omega
          have hbl : BlsAt wr w.heap.size BA f.bl OA oc AA ac := he.fn.bls
          obtain ⟨ad, p, x, rfl, hx, hpp, -, a0, a1, a2, a3, a4, a5⟩ := bl_at hbl hlt
          have hxm := List.mem_of_getElem? hx
          obtain ⟨hfl, hft⟩ := HFIT.out x hxm
          have HFT := Lib.hid hft
          have HOPS := Lib.hid (hbl.ops i x hx)
          have HBAD : Hid (blB f st x = false → fnB st f = false) := Lib.hid fun hx2 => fn_bad2 (all_false hx hx2)
          have HOK : Hid (blB f st x = true → (f.bl.take (i + 1)).all (blB f st) = true) := Lib.hid fun hx2 => by rw [all_take _ _ _ _ hx, HALL2.out, hx2]; rfl
          have HSM := Lib.hid (sum_take f.bl i x hx)
          have HBS : Hid (¬ opsSum (f.bl.take (i + 1)) ≤ 4096 → fnB st f = false) := Lib.hid fun hx2 => fn_bad3 (fun h => hx2 (Nat.le_trans (sum_le f.bl (i + 1)) h))
          obtain ⟨g0, g1, g2⟩ : wr.cell? ⟨V, 0, none⟩ = some (.int .i64 f.regs) ∧ wr.cell? ⟨V, 1, none⟩ = some (.int .i64 f.slots.length) ∧ wr.cell? ⟨V, 2, none⟩ = some (.int .i64 st) := ⟨Go.Joins.cell_of_block hv 0, Go.Joins.cell_of_block hv 1, Go.Joins.cell_of_block hv 2⟩
          have hvl : V < wr.heap.size := (Array.getElem?_eq_some_iff.1 hv).1
          have hvn : V ≠ wr.heap.size := by omega
          have hal := (Below.refl wr.heap.size wr).alloc (Nat.le_refl _) (.cells #[.slice (OA i) x.ops.length (oc i), .int .i64 x.ex.k, .int .i64 x.ex.a, .int .i64 x.ex.d, .int .i64 x.ex.to, .int .i64 x.ex.els] 52)
          have hz : (wr.alloc (.cells #[.slice (OA i) x.ops.length (oc i), .int .i64 x.ex.k, .int .i64 x.ex.a, .int .i64 x.ex.d, .int .i64 x.ex.to, .int .i64 x.ex.els] 52)).cell? ⟨wr.heap.size, 0, none⟩ = some (.slice (OA i) x.ops.length (oc i)) := Go.Joins.cell_of_block (heap_alloc_new wr _) 0
          have HZ := Lib.hid hz
          have HAL := Lib.hid hal
          have HX : Hid (∀ W, Calls Tryz.prog 122 #[.agg #[.int .i64 f.regs, .int .i64 f.slots.length, .int .i64 st], .agg #[.int .i64 x.ex.k, .int .i64 x.ex.a, .int .i64 x.ex.d, .int .i64 x.ex.to, .int .i64 x.ex.els], .int .i64 f.bl.length] W fun e w' => e = .returned (.bool (exitB f.regs x.ex f.bl.length)) ∧ Below W.heap.size W w') := Lib.hid fun W => exit_122 f.regs f.slots.length st x.ex f.bl.length W
          have HC : Hid (∀ W, Below wr.heap.size wr W → Calls Tryz.prog 123 #[.slice (OA i) x.ops.length (oc i), .func (.func 124) #[] #[.pointer (some ⟨V, 0, none⟩)]] W fun e w' => e = .returned (.bool (!x.ops.all (opB f.regs f.slots.length st))) ∧ Below W.heap.size W w') := Lib.hid fun W hb =>
            contains_123 f.regs f.slots.length st V (OA i) x.ops.length (oc i) x.ops (AA i) (ac i) W rfl (by simp only [maxLen]; omega) (HOPS.out.keep (fun q hq => hb.cell (by omega)) (by have := hb.size; omega)) ((hb.block V (Array.getElem?_eq_some_iff.1 HV.out).1).trans HV.out) (H.out.keys.below hb) HFT.out
          have hs0 : ((opsSum (f.bl.take i) : Nat) : Int) ≤ 4096 := by omega
          have hf0 : (x.ops.length : Int) ≤ 140737488355328 := by omega
          clear he hv hall hbl hx hxm hft hz hal hsum
          unfold blB at HBAD HOK
          by_cases s1 : opsSum (f.bl.take i) + x.ops.length ≤ 4096
          · have s2 : ¬ (4096 : Int) < ((opsSum (f.bl.take i) : Nat) : Int) + (x.ops.length : Int) := by omega
            have HS1 : Hid (opsSum (f.bl.take (i + 1)) ≤ 4096) := Lib.hid (by rw [HSM.out]; exact s1)
            clear s1
            generalize opsSum (f.bl.take i) = S at *
            cases hex : exitB f.regs x.ex f.bl.length with
            | false =>
              rw [hex] at HX HBAD
              have HS := Lib.hid (HBAD.out rfl)
              clear hex
              go_wp2_with (go_at_call 122; refine (HX.out _).mono ?_; rintro e w3 ⟨rfl, hb3⟩; have HB3 := Lib.hid (HAL.out.trans (hb3.mono (by simp))); clear hb3)
              go_ret
              exact ⟨ret_bool HS.out.symm, (H.out.after HB3.out).below⟩
            | true =>
              rw [hex] at HX HBAD HOK
              rw [Bool.true_and] at HBAD HOK
              clear hex
              cases hop : x.ops.all (opB f.regs f.slots.length st) with
              | false =>
                rw [hop] at HC
                have HS := Lib.hid (HBAD.out hop)
                clear hop
                go_wp2_with (first
                  | (go_at_call 122; refine (HX.out _).mono ?_; rintro e w3 ⟨rfl, hb3⟩; have z0 := (hb3.cell (p := ⟨wr.heap.size, 0, none⟩) (by simp)).trans HZ.out; have HB3 := Lib.hid (HAL.out.trans (hb3.mono (by simp))); clear hb3)
                  | (go_at_call 123; refine (HC.out _ HB3.out).mono ?_; rintro e w4 ⟨rfl, hb4⟩; have HB4 := Lib.hid (HB3.out.trans (hb4.mono HB3.out.size)); clear hb4))
                go_ret
                exact ⟨ret_bool HS.out.symm, (H.out.after HB4.out).below⟩
              | true =>
                rw [hop] at HC
                have HS := Lib.hid (HOK.out hop)
                clear hop
                go_wp2_with (first
                  | (go_at_call 122; refine (HX.out _).mono ?_; rintro e w3 ⟨rfl, hb3⟩; have z0 := (hb3.cell (p := ⟨wr.heap.size, 0, none⟩) (by simp)).trans HZ.out; have HB3 := Lib.hid (HAL.out.trans (hb3.mono (by simp))); clear hb3)
                  | (go_at_call 123; refine (HC.out _ HB3.out).mono ?_; rintro e w4 ⟨rfl, hb4⟩; have HB4 := Lib.hid (HB3.out.trans (hb4.mono HB3.out.size)); clear hb4))
                go_roundg (f.bl.length - (i + 1))
                case measure => omega
                case rel => exact ⟨i + 1, by omega, rfl, by go_num, by rw [HSM.out]; go_num, H.out.after HB4.out, (HB4.out.block V (Array.getElem?_eq_some_iff.1 HV.out).1).trans HV.out, HS.out, HS1.out⟩
          · have s2 : (4096 : Int) < ((opsSum (f.bl.take i) : Nat) : Int) + (x.ops.length : Int) := by omega
            have HS := Lib.hid (HBS.out (by rw [HSM.out]; exact s1))
            clear s1
            generalize opsSum (f.bl.take i) = S at *
            go_wp2_with fail
            go_ret
            exact ⟨ret_bool HS.out.symm, (H.out.after HAL.out).below⟩
        · obtain rfl : i = f.bl.length := by omega
          rw [List.take_length] at hall hsum
          have hto : ToOk f := fun x hx => exit_to (by
            have := (List.all_eq_true.1 hall) x hx
            unfold blB at this
            rw [Bool.and_eq_true] at this
            exact this.1)
          have HAP := Lib.hid (apart_125 f ⟨SA, sc, BA, bc, OA, oc, AA, ac⟩ wr (he.fn.keep (fun _ _ => rfl) he.below.size) HNB.out hto)
          have HFN : Hid (fnB st f = apartB f.bl) := Lib.hid (by unfold fnB; rw [hhead.out, HALL.out, hall, decide_eq_true hsum]; rfl)
          unfold fnV at HAP
          simp only at HAP
          clear he hv hall hsum hto
          go_wp2_with (go_at_call 125; refine HAP.out.mono ?_; rintro e w5 ⟨rfl, hb5⟩; have HB5 := Lib.hid hb5; clear hb5)
          go_ret
          exact ⟨ret_bool HFN.out.symm, (H.out.after HB5.out).below⟩
end Go.Proofs.YthgbmhpfblgjcaaGreatDoor.fl
namespace Go.Proofs.YthgbmhpfblgjcaaGreatDoor.fl
open Go.RowKit Go.Shelf
open M T ty
set_option linter.unusedVariables false
theorem function_94 (st : Int) (f : Fn) (L : FLay) (w : World) (hfa : FnAt w w.heap.size f L) (hK : KeysIn w) (hn : f.name.size ≤ maxLen) (hfit : FnFit f) :
    Calls Tryz.prog 94 #[fnV f L, .int .i64 st] w fun e w' => e = .returned (.bool (fnB st f)) ∧ Below w.heap.size w w' := by
  have HN : Hid (NameF w f L (nameB (nums f.name))) := Lib.hid fun W HW => (isname_any f.name W HW.keys hn).mono fun e w' ⟨h1, h2⟩ => ⟨h1, HW.after h2⟩
  cases hh : headB f with
  | true => exact fn_body st f L w hfa hK HN hh hfit
  | false =>
    have : fnB st f = false := by unfold fnB; rw [hh]; rfl
    rw [this]
    exact fn_head st f L w (Lib.hid (EnvF.new w f L hfa hK)) HN hh
set_option maxRecDepth 20000 in
set_option maxHeartbeats 8000000 in
theorem CheckFunc_58 (f : Fn) (L : FLay) (w : World) (hfa : FnAt w w.heap.size f L) (hK : KeysIn w) (hn : f.name.size ≤ maxLen) (hfit : FnFit f) :
    Calls Tryz.prog 58 #[fnV f L] w fun e w' => e = .returned (.int .i64 (if fnB 4611686018427387904 f then 0 else 180)) ∧ Below w.heap.size w w' := by
  have hb0 := (Below.refl w.heap.size w).alloc (Nat.le_refl _) (.cells #[.string f.name, .int .i64 f.params, .int .i64 f.regs, .slice L.SA f.slots.length L.sc, .slice L.BA f.bl.length L.bc] 25)
  have hlt : w.heap.size ≤ (w.alloc (.cells #[.string f.name, .int .i64 f.params, .int .i64 f.regs, .slice L.SA f.slots.length L.sc, .slice L.BA f.bl.length L.bc] 25)).heap.size := hb0.size
  have HF := Lib.hid (function_94 4611686018427387904 f L (w.alloc (.cells #[.string f.name, .int .i64 f.params, .int .i64 f.regs, .slice L.SA f.slots.length L.sc, .slice L.BA f.bl.length L.bc] 25)) (hfa.keep (fun q hq => hb0.cell hq) hlt) (hK.below hb0) hn hfit)
  have HB := Lib.hid hb0
  clear hb0 hlt hfa hK hn hfit
  unfold fnV at HF ⊢
  cases h : fnB 4611686018427387904 f with
  | true =>
    rw [h] at HF
    clear h
    go_enter Tryz.func58, Tryz.ntmps58
    go_wp2_with (go_at_call 94; refine HF.out.mono ?_; rintro e w1 ⟨rfl, hb⟩; have H1 := Lib.hid (HB.out.trans (hb.mono HB.out.size)); clear hb)
    go_ret
    exact ⟨rfl, H1.out⟩
  | false =>
    rw [h] at HF
    clear h
    go_enter Tryz.func58, Tryz.ntmps58
    go_wp2_with (go_at_call 94; refine HF.out.mono ?_; rintro e w1 ⟨rfl, hb⟩; have H1 := Lib.hid (HB.out.trans (hb.mono HB.out.size)); clear hb)
    go_ret
    exact ⟨rfl, H1.out⟩
end Go.Proofs.YthgbmhpfblgjcaaGreatDoor.fl
