/-
  What stands in a block behind a copy, plainly; what then is told of it. Condition: the table of keywords stands in memory.
-/
import Derived.Test.YtejhphnlickjlaaDoorBmN
import Derived.Test.YtejhphnlickjlaaDoorBmM
set_option linter.unusedVariables false
set_option linter.unusedSimpArgs false
namespace Go.Proofs.YtejhphnlickjlaaDoor.bl
open Go.RowKit
open M ty
set_option linter.unusedVariables false
theorem reach_put {st : St} {j q : Nat} {z : List By} {b : Bk} (hj : st.bl[j]? = some b) (hq : q + z.length ≤ b.bs.length) (k i o n : Int) : reachE (st.put j q z) k i o n = reachE st k i o n := by
  unfold reachE
  rw [put_length]
  by_cases hi : (i - 1).toNat = j
  · rw [hi, put_self q z hj, hj]
    simp only [putB_length hq]
  · rw [put_other q z hi]
theorem kind_put {st : St} {j q : Nat} {z : List By} {b : Bk} (hj : st.bl[j]? = some b) (i : Int) : kindOf (st.put j q z) i = kindOf st i := by
  unfold kindOf
  by_cases hi : (i - 1).toNat = j
  · rw [hi, put_self q z hj, hj]; rfl
  · rw [put_other q z hi]
theorem putB_read {l z : List By} {q m : Nat} (hq : q + z.length ≤ l.length) (hm : m ≤ z.length) : ((putB l q z).drop q).take m = z.take m := by
  unfold putB
  rw [List.append_assoc, List.drop_append, List.length_take, List.drop_eq_nil_of_le (by simp; omega), List.nil_append, show q - min q l.length = 0 by omega, List.drop_zero, List.take_append_of_le_length hm]
theorem bytes_put {st : St} {j q : Nat} {z : List By} {b : Bk} (hj : st.bl[j]? = some b) (hq : q + z.length ≤ b.bs.length) {n : Int} (hn : n.toNat ≤ z.length) : bytesAt (st.put j q z) ((j : Int) + 1) q n = z.take n.toNat := by
  unfold bytesAt
  rw [show ((j : Int) + 1 - 1).toNat = j by omega, put_self q z hj]
  simp only [Option.map_some, Option.getD_some, Int.toNat_natCast]
  exact putB_read hq hn
theorem bytes_take (st : St) (i o : Int) {m n : Int} (hm : m ≤ n) : (bytesAt st i o n).take m.toNat = bytesAt st i o m := by
  unfold bytesAt
  rw [List.take_take, show min m.toNat n.toNat = m.toNat by omega]
theorem copy_zero {st : St} {k i o k2 i2 o2 n : Int} (h : copyE st k i o k2 i2 o2 n = 0) : 0 ≤ n ∧ reachE st k i o n = 0 ∧ reachE st k2 i2 o2 n = 0 ∧ kindOf st i ≠ 1 := by
  unfold copyE at h
  split at h
  · exact absurd h (by decide)
  · split at h
    · rename_i h1; exact absurd h h1
    · rename_i h1
      split at h
      · rename_i h2; exact absurd h h2
      · rename_i h2
        split at h
        · exact absurd h (by decide)
        · rename_i h3
          exact ⟨by omega, Decidable.not_not.1 h1, Decidable.not_not.1 h2, h3⟩
theorem reach_less {st : St} {k i o n m : Int} (h : reachE st k i o n = 0) (hm : m ≤ n) : reachE st k i o m = 0 := by
  obtain ⟨rfl, h1, h2, o0, b, hb, hd, h3, h4⟩ := reach_zero h
  unfold reachE
  rw [if_neg (by omega), hb]
  simp [hd]
  omega
theorem bits_pv : T.bitsT [112, 118] = 0 := by simp [T.bitsT]
theorem ptr_pv : T.ptrT [112, 118] = true := by unfold T.ptrT; rw [form_p 118 (.base (by decide))]; rfl
theorem width_pv : widthT [112, 118] = 4 := by simp [widthT, bits_pv, ptr_pv]
theorem load_pv_zero {st : St} {k i o : Int} {a x y : Int} (h : loadR st [112, 118] k i o = (0, a, x, y)) : reachE st k i o 4 = 0 ∧ o.tmod 4 = 0 ∧ loadB [112, 118] (bytesAt st i o 4) = (0, a, x, y) := by
  unfold loadR at h
  rw [width_pv] at h
  simp only [show ((4 : Nat) : Int) = 4 from rfl] at h
  rw [if_neg (by decide)] at h
  split at h
  · rename_i h1
    exact absurd (congrArg Prod.fst h) h1
  · rename_i h1
    split at h
    · exact absurd (congrArg Prod.fst h) (by simp)
    · rename_i h2
      exact ⟨Decidable.not_not.1 h1, Decidable.not_not.1 h2, h⟩
theorem load_pv_of {st : St} {k i o : Int} (h1 : reachE st k i o 4 = 0) (h2 : o.tmod 4 = 0) : loadR st [112, 118] k i o = loadB [112, 118] (bytesAt st i o 4) := by
  unfold loadR
  rw [width_pv]
  simp only [show ((4 : Nat) : Int) = 4 from rfl]
  rw [if_neg (by decide), if_neg (fun h => h h1), if_neg (fun h => h h2)]
theorem ctx_zero {st : St} {k i o c : Int} (h : ctxR st k i o = (0, c)) : reachE st k i o 64 = 0 ∧ (bytesAt st i o 64).any isUn = false ∧ (∀ j, j < 64 → Slice0 ((bytesAt st i o 64)[0]?.getD By.zero) (bytesAt st i o 64) j) ∧ c = ((bytesAt st i o 64)[0]?.getD By.zero).c := by
  unfold ctxR at h
  split at h
  · rename_i h1
    exact absurd (congrArg Prod.fst h) h1
  · rename_i h1
    split at h
    · exact absurd (congrArg Prod.fst h) (by simp)
    · split at h
      · exact absurd (congrArg Prod.fst h) (by simp)
      · rename_i h3
        split at h
        · rename_i h4
          exact ⟨Decidable.not_not.1 h1, by simpa using h3, h4, (congrArg Prod.snd h).symm⟩
        · exact absurd (congrArg Prod.fst h) (by simp)
theorem bytesAt_get {st : St} {i o n : Int} {b : Bk} (hb : st.bl[(i - 1).toNat]? = some b) {r : Nat} (hr : r < n.toNat) : (bytesAt st i o n)[r]? = b.bs[o.toNat + r]? := by
  unfold bytesAt
  rw [hb]
  simp only [Option.map_some, Option.getD_some]
  rw [List.getElem?_take_of_lt hr, List.getElem?_drop]
/-- one byte written in a context's midst breaks it -/
theorem ctx_broken {st : St} {j : Nat} {o : Int} {b : Bk} (hj : st.bl[j]? = some b) (hr : reachE st 2 ((j : Int) + 1) o 64 = 0) (h4 : o.tmod 4 = 0) (hu : (bytesAt st ((j : Int) + 1) o 64).any isUn = false)
    {a : Int} (a0 : 0 ≤ a) (a1 : a < 64) {x : By} (hx : x.k = 1) : ctxR (st.put j (o + a).toNat [x]) 2 ((j : Int) + 1) o = (144, 0) := by
  have e1 : ((j : Int) + 1 - 1).toNat = j := by omega
  obtain ⟨_, _, _, o0, b', hb', hd, h2, h3⟩ := reach_zero hr
  rw [e1, hj] at hb'
  obtain rfl := Option.some.inj hb'
  have hfit : (o + a).toNat + [x].length ≤ b.bs.length := by simp; omega
  have hr2 : reachE (st.put j (o + a).toNat [x]) 2 ((j : Int) + 1) o 64 = 0 := by rw [reach_put hj hfit]; exact hr
  have hl2 := bytesAt_length hr2 (by omega)
  have get2 : ∀ r, r < 64 → (bytesAt (st.put j (o + a).toNat [x]) ((j : Int) + 1) o 64)[r]? = if r = a.toNat then some x else (bytesAt st ((j : Int) + 1) o 64)[r]? := fun r hr64 => by
    rw [bytesAt_get (b := { b with bs := putB b.bs (o + a).toNat [x] }) (by rw [e1]; exact put_self _ _ hj) hr64, bytesAt_get (by rw [e1]; exact hj) hr64]
    simp only
    rw [putB_get hfit]
    by_cases h : r = a.toNat
    · rw [if_pos h, if_neg (by omega), if_pos (by simp; omega), show o.toNat + r - (o + a).toNat = 0 by omega]
      rfl
    · rw [if_neg h]
      by_cases h' : r < a.toNat
      · rw [if_pos (by omega)]
      · rw [if_neg (by omega), if_neg (by simp; omega)]
  have hu2 : (bytesAt (st.put j (o + a).toNat [x]) ((j : Int) + 1) o 64).any isUn = false := by
    rw [List.any_eq_false]
    intro y hy
    obtain ⟨r, hrl, rfl⟩ := List.mem_iff_getElem.1 hy
    have hr64 : r < 64 := by rw [hl2] at hrl; exact hrl
    have hg := get2 r hr64
    rw [List.getElem?_eq_getElem hrl] at hg
    by_cases h : r = a.toNat
    · rw [if_pos h] at hg
      rw [Option.some.inj hg]
      simp [isUn, hx]
    · rw [if_neg h] at hg
      rw [List.any_eq_false] at hu
      exact hu _ (List.mem_of_getElem? hg.symm)
  have hn : ¬ ∀ r, r < 64 → Slice0 ((bytesAt (st.put j (o + a).toNat [x]) ((j : Int) + 1) o 64)[0]?.getD By.zero) (bytesAt (st.put j (o + a).toNat [x]) ((j : Int) + 1) o 64) r := fun hall => by
    have := (hall a.toNat (by omega) x (by rw [get2 _ (by omega), if_pos rfl])).1
    omega
  unfold ctxR
  rw [if_neg (fun h => h hr2), if_neg (fun h => h h4), if_neg (by rw [hu2]; decide), if_neg hn]
theorem fits_c : fitsT [99] 1 1 0 = true := by simp [fitsT, bits_c, rangeT]
theorem one_byte : stB 1 1 1 0 = [⟨1, 1, 0, 0, 0, 0⟩] := by simp [stB, List.range_succ]
section
variable {B g N : Nat} {st : St} {L : Lay}
theorem wr_of {f : FuncId} {args : Array Value} {st' : St} {E : Int} (hE : E = 0) (hl : st'.bl.length = st.bl.length) (h : ∀ W, Sto W B g N st L → KeysIn W → Calls Tryd.prog f args W fun e w' => Wrote W B g N st' L E e w') : AtWr B g N st L f args st' := fun W hW hK =>
  (h W hW hK).mono fun e w' x => by
    obtain ⟨x1, x2, _⟩ := x
    subst hE
    refine ⟨x1, (x2 rfl).1, ?_⟩
    have := (x2 rfl).2
    rwa [hl] at this
theorem cop_of (hN : N + 2 < 1099511627776) (pk pi po qk qi qo n a a' : Int) (hp : In64 pi) (hq : In64 qi) (hn : In64 n) (a0 : 0 ≤ a') (a1 : a' < 64) (hm : ∀ b ∈ st.bl, b.bs.length ≤ 131072) : CopS B g N st L pk pi po qk qi qo n a a' := by
  have hlim : (10 : Nat) ≤ maxLen := by simp [maxLen]
  have LQ : AtK B g N st L 22 #[.pointer (some ⟨g, 0, none⟩), .agg #[.int .i64 qk, .int .i64 qi, .int .i64 qo], .string ⟨#[112, 118]⟩] (loadV (loadR st [112, 118] qk qi qo)) := fun W hW hK => load_any hW hK ⟨#[112, 118]⟩ (Nat.le_trans (by decide) hlim) qk qi qo hq.1 hq.2
  have CQ : AtK B g N st L 23 #[.pointer (some ⟨g, 0, none⟩), .agg #[.int .i64 qk, .int .i64 qi, .int .i64 qo]] (.tuple #[.int .i64 (ctxR st qk qi qo).2, .int .i64 (ctxR st qk qi qo).1]) := fun W hW hK => ctx_any hW qk qi qo hq.1 hq.2
  refine ⟨_, _, _, _, _, _, LQ, CQ, ?_⟩
  by_cases hE : copyE st pk pi po qk qi qo n = 0
  · right
    obtain ⟨n0, hrp, hrq, hkind⟩ := copy_zero hE
    obtain ⟨rfl, i1, i2, o0, b, hb, hd, h3, h4⟩ := reach_zero hrp
    obtain ⟨j, rfl⟩ : ∃ j : Nat, pi = (j : Int) + 1 := ⟨(pi - 1).toNat, by omega⟩
    have e1 : ((j : Int) + 1 - 1).toNat = j := by omega
    rw [e1] at hb
    have hzl := bytesAt_length hrq n0
    have hbl := hm b (List.mem_of_getElem? hb)
    have hfit : po.toNat + (bytesAt st qi qo n).length ≤ b.bs.length := by rw [hzl]; omega
    have ep : ((po.toNat : Nat) : Int) = po := by omega
    have hb2 := put_self po.toNat (bytesAt st qi qo n) hb
    have rp : ∀ k i o m, reachE (st.put j po.toNat (bytesAt st qi qo n)) k i o m = reachE st k i o m := reach_put hb hfit
    have rd : ∀ m : Int, 0 ≤ m → m ≤ n → bytesAt (st.put j po.toNat (bytesAt st qi qo n)) ((j : Int) + 1) po m = bytesAt st qi qo m := fun m m0 hmn => by
      have := bytes_put hb hfit (n := m) (by rw [hzl]; omega)
      rw [ep] at this
      rw [this, bytes_take st qi qo hmn]
    refine ⟨st.put j po.toNat (bytesAt st qi qo n), put_length _ _ _ _, wr_of hE (put_length _ _ _ _) (fun W hW hK => by have := copy_any hW (by omega) 2 ((j : Int) + 1) po qk qi qo n hp.1 hp.2 hq.1 hq.2; rw [e1] at this; exact this), ?_, ?_⟩
    · by_cases hf : (loadR st [112, 118] qk qi qo).1 = 0
      · refine .inr ⟨hf, ?_⟩
        by_cases hn4 : 4 ≤ n
        · refine .inr ⟨hn4, (loadR (st.put j po.toNat (bytesAt st qi qo n)) [112, 118] 2 ((j : Int) + 1) po).2.1, (loadR (st.put j po.toNat (bytesAt st qi qo n)) [112, 118] 2 ((j : Int) + 1) po).2.2.1, (loadR (st.put j po.toNat (bytesAt st qi qo n)) [112, 118] 2 ((j : Int) + 1) po).2.2.2, (loadR (st.put j po.toNat (bytesAt st qi qo n)) [112, 118] 2 ((j : Int) + 1) po).1, (fun W hW hK => load_any hW hK ⟨#[112, 118]⟩ (Nat.le_trans (by decide) hlim) 2 ((j : Int) + 1) po hp.1 hp.2 : AtK B g (N + 1) (st.put j po.toNat (bytesAt st qi qo n)) L 22 #[.pointer (some ⟨g, 0, none⟩), .agg #[.int .i64 2, .int .i64 ((j : Int) + 1), .int .i64 po], .string ⟨#[112, 118]⟩] (loadV (loadR (st.put j po.toNat (bytesAt st qi qo n)) [112, 118] 2 ((j : Int) + 1) po))), ?_⟩
          by_cases h4 : po.tmod 4 = 0
          · obtain ⟨hr4, hq4, hlb⟩ := load_pv_zero (show loadR st [112, 118] qk qi qo = (0, (loadR st [112, 118] qk qi qo).2.1, (loadR st [112, 118] qk qi qo).2.2.1, (loadR st [112, 118] qk qi qo).2.2.2) from Prod.ext hf rfl)
            have : loadR (st.put j po.toNat (bytesAt st qi qo n)) [112, 118] 2 ((j : Int) + 1) po = loadR st [112, 118] qk qi qo := by
              rw [load_pv_of (by rw [rp]; exact reach_less hrp hn4) h4, rd 4 (by omega) hn4, hlb]
              exact Prod.ext hf.symm rfl
            rw [this]
            exact .inr ⟨h4, rfl, rfl, rfl, hf⟩
          · exact .inl h4
        · exact .inl hn4
      · exact .inl (by simpa using hf)
    · by_cases hg : (ctxR st qk qi qo).1 = 0
      · refine .inr ⟨hg, ?_⟩
        by_cases hn64 : 64 ≤ n
        · refine .inr ⟨hn64, ?_⟩
          by_cases h4 : po.tmod 4 = 0
          · obtain ⟨hr64, hu, hall, hc⟩ := ctx_zero (show ctxR st qk qi qo = (0, (ctxR st qk qi qo).2) from Prod.ext hg rfl)
            have hrp64 : reachE (st.put j po.toNat (bytesAt st qi qo n)) 2 ((j : Int) + 1) po 64 = 0 := by rw [rp]; exact reach_less hrp hn64
            have hz64 := rd 64 (by omega) hn64
            have hctx : ctxR (st.put j po.toNat (bytesAt st qi qo n)) 2 ((j : Int) + 1) po = (0, (ctxR st qk qi qo).2) := by
              conv => lhs; unfold ctxR
              rw [if_neg (fun h => h hrp64), if_neg (fun h => h h4), hz64, if_neg (by rw [hu]; decide), if_pos hall, ← hc]
            have CP : AtK B g (N + 1) (st.put j po.toNat (bytesAt st qi qo n)) L 23 #[.pointer (some ⟨g, 0, none⟩), .agg #[.int .i64 2, .int .i64 ((j : Int) + 1), .int .i64 po]] (.tuple #[.int .i64 (ctxR st qk qi qo).2, .int .i64 0]) := fun W hW hK => by
              have := ctx_any hW 2 ((j : Int) + 1) po hp.1 hp.2
              rw [hctx] at this
              exact this
            have hbr := ctx_broken hb2 hrp64 h4 (by rw [hz64]; exact hu) a0 a1 (x := ⟨1, 1, 0, 0, 0, 0⟩) rfl
            have hlen2 : (putB b.bs po.toNat (bytesAt st qi qo n)).length = b.bs.length := putB_length hfit
            have hr1 : reachE (st.put j po.toNat (bytesAt st qi qo n)) 2 ((j : Int) + 1) (po + a') 1 = 0 := by
              rw [rp]
              unfold reachE
              rw [if_neg (by omega), e1, hb]
              simp [hd]
              omega
            have hst : storeE (st.put j po.toNat (bytesAt st qi qo n)) [99] 2 ((j : Int) + 1) (po + a') 1 1 0 = 0 := by
              unfold storeE
              rw [width_c, fits_c]
              simp only [show ((1 : Nat) : Int) = 1 from rfl, hr1]
              rw [kind_put hb]
              simp [hkind]
            refine .inr ⟨h4, CP, IntWalk.wrap64_in _ (by omega), (st.put j po.toNat (bytesAt st qi qo n)).put j (po + a').toNat [⟨1, 1, 0, 0, 0, 0⟩], 0, put_length _ _ _ _, ?_, fun W hW hK => by
              have := ctx_any hW 2 ((j : Int) + 1) po hp.1 hp.2
              rw [hbr] at this
              exact this⟩
            refine wr_of hst (put_length _ _ _ _) (fun W hW hK => ?_)
            have := store_any hW (by omega) hK (s := ⟨#[99]⟩) (Nat.le_trans (by decide) hlim) 2 ((j : Int) + 1) (po + a') 1 1 0 hp.1 hp.2
            rw [show T.nums (⟨#[99]⟩ : ByteArray) = [99] from rfl, width_c, one_byte, e1] at this
            exact this
          · exact .inl h4
        · exact .inl hn64
      · exact .inl (by simpa using hg)
  · left
    exact ⟨_, fun W hW hK => (copy_any hW (by omega) pk pi po qk qi qo n hp.1 hp.2 hq.1 hq.2).mono fun e w' x => ⟨x.1, x.2.2 hE⟩, by simpa using hE⟩
end
theorem copies_law (A : Option Addr) (m c : Nat) (l : List Ac) (pk pi po qk qi qo n a : Int) (w : World) (hK : KeysIn w) (hA : Rd w w.heap.size A (acs l)) (hl : l.length = m) (hO : ∀ x ∈ l, AcOk x) (hm : m + 2 < 1099511627776)
    (hp : In64 pi) (hq : In64 qi) (hn : In64 n) :
    Calls Tryd.prog 4 #[.slice A m c, .agg #[.int .i64 pk, .int .i64 pi, .int .i64 po], .agg #[.int .i64 qk, .int .i64 qi, .int .i64 qo], .int .i64 n, .int .i64 a] w fun e w' => e = .returned (.bool true) ∧ Below w.heap.size w w' := by
  have ha : 0 ≤ IntKind.i64.wrap (Int.tmod (IntKind.u64.wrap a) 64) ∧ IntKind.i64.wrap (Int.tmod (IntKind.u64.wrap a) 64) < 64 := by
    rw [IntKind.wrap_u64]
    have h0 : 0 ≤ a % 18446744073709551616 := Int.emod_nonneg _ (by decide)
    rw [Int.tmod_eq_emod_of_nonneg h0, wrapIn (by omega) (by omega)]
    omega
  refine copies_walk (Lib.hid fun W hW => works_any W (hK.below hW.below)) (Lib.hid fun W hW => ?_) rfl
  refine (made_any A m c l W (hK.below hW.below) ((hA.below hW.below).more hW.below.size) hl hO (by omega)).mono fun e w' ⟨h1, N, st, L, h2, h3, h4⟩ => ?_
  exact ⟨_, _, N, st, L, h1, h2.below, h2.sto, Nat.le_refl _, h2.keys, cop_of (by omega) pk pi po qk qi qo n a _ hp hq hn ha.1 ha.2 (fun b hb => by obtain ⟨j, hj, rfl⟩ := List.mem_iff_getElem.1 hb; exact (h2.sto.body j _ (List.getElem?_eq_getElem hj)).2.2.2.2)⟩
end Go.Proofs.YtejhphnlickjlaaDoor.bl
