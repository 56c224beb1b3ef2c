/-
  The contract of Load of package block, whole. Condition: a store and the table of keywords stand in memory.
-/
import Derived.Test.YtejhphnlickjlaaDoorBmB
import Derived.Test.YtejhphnlickjlaaDoorBlR
set_option linter.unusedVariables false
set_option linter.unusedSimpArgs false
namespace Go.Proofs.YtejhphnlickjlaaDoor.bl
open Go.RowKit
open M ty
set_option linter.unusedVariables false
open Classical in
/-- what a load of bytes hands back: the error, the value -/
noncomputable def loadB (l : List Int) (zs : List By) : Int × Int × Int × Int :=
  if zs.any isUn = true then (143, 0, 0, 0) else if T.bitsT l ≠ 0 then (if zs.all (fun x => x.k == 1) = true then (0, 1, numT (rangeT l).2 zs, 0) else (144, 0, 0, 0))
  else if (∀ j, j < zs.length → Piece (zs[0]?.getD By.zero) zs j) then (0, (zs[0]?.getD By.zero).a, (zs[0]?.getD By.zero).i, (zs[0]?.getD By.zero).o) else (144, 0, 0, 0)
/-- what Load hands back -/
noncomputable def loadR (st : St) (l : List Int) (k i o : Int) : Int × Int × Int × Int :=
  if widthT l = 0 then (5, 0, 0, 0) else if reachE st k i o (widthT l) ≠ 0 then (reachE st k i o (widthT l), 0, 0, 0) else if o.tmod (widthT l) ≠ 0 then (142, 0, 0, 0) else loadB l (bytesAt st i o (widthT l))
def loadV (r : Int × Int × Int × Int) : Value := .tuple #[vT r.2.1 r.2.2.1 r.2.2.2, .int .i64 r.1]
theorem bytesAt_length {st : St} {k i o n : Int} (h : reachE st k i o n = 0) (n0 : 0 ≤ n) : (bytesAt st i o n).length = n.toNat := by
  obtain ⟨_, _, _, o0, b, hb, _, h3, h4⟩ := reach_zero h
  unfold bytesAt
  rw [hb]
  simp
  omega
section
variable {w W : World} {B g N : Nat} {st : St} {L : Lay}
theorem load_any (h : Sto w B g N st L) (hK : KeysIn w) (s : ByteArray) (hs : s.size ≤ maxLen) (k i o : Int) (i0 : -9223372036854775808 ≤ i) (i1 : i ≤ 9223372036854775807) :
    Calls Tryd.prog 22 #[.pointer (some ⟨g, 0, none⟩), vT k i o, .string s] w fun e w' => e = .returned (loadV (loadR st (T.nums s) k i o)) ∧ Below w.heap.size w w' := by
  have h4 := width_four (T.nums s)
  have HW : Hid (WidthD w k i o s (widthT (T.nums s))) := Lib.hid (fun W hW => (width_any s W (hK.below hW.below) hs).mono fun e w' ⟨p, q⟩ => ⟨p, hW.after q⟩)
  have HI : Hid (IntD s (decide (T.bitsT (T.nums s) ≠ 0))) := Lib.hid (fun W => IsInt_any s W)
  unfold loadR vT
  generalize widthT (T.nums s) = n at *
  by_cases h0 : n = 0
  · subst h0
    rw [if_pos rfl]
    exact load_shape HW
  · rw [if_neg h0]
    have hn : ((n : Int) == 0) = false := by simpa using h0
    have hn1 : ¬ (n : Int) = 0 := by omega
    by_cases hE : reachE st k i o n = 0
    · rw [if_neg (fun h => h hE)]
      have hzl := bytesAt_length hE (by omega)
      rw [Int.toNat_natCast] at hzl
      obtain ⟨rfl, h1, h2, o0, b, hx, hd, h3, h5⟩ := reach_zero hE
      obtain ⟨j, rfl⟩ : ∃ j : Nat, i = (j : Int) + 1 := ⟨(i - 1).toNat, by omega⟩
      have e1 : ((j : Int) + 1 - 1).toNat = j := by omega
      rw [e1] at hx
      have hm := (h.body _ b hx).2.2.2.2
      have hz : bytesAt st ((j : Int) + 1) o n = (b.bs.drop o.toNat).take n := by unfold bytesAt; rw [e1, hx, Int.toNat_natCast]; rfl
      have HS : SeeD w g 2 ((j : Int) + 1) o n (L.pb j) (L.py j) o.toNat (b.bs.length - o.toNat) (bytesAt st ((j : Int) + 1) o n) := fun W hW => by
        have hr := reach_any (h.below hW.below) 2 ((j : Int) + 1) o n i0 i1 (by omega)
        rw [reachR_ok hx hd o0 (by omega) (by omega), sliceAt_pos (by omega) o0 (by omega), Int.toNat_natCast] at hr
        exact hr.mono fun e w' ⟨p, q⟩ => ⟨p, hW.after q, by rw [hz]; exact ((h.below hW.below).below q).bytesAt hx _ _, (Array.getElem?_eq_some_iff.1 (((h.below hW.below).below q).body j b hx).2.2.2.1).1⟩
      generalize bytesAt st ((j : Int) + 1) o n = zs at *
      by_cases hr : o.tmod n = 0
      · rw [if_neg (fun h => h hr)]
        have HC : HasD w 2 ((j : Int) + 1) o n (L.py j) o.toNat (b.bs.length - o.toNat) zs (zs.any isUn) := fun W hW hb hy =>
          (contains_61 (L.py j) (o.toNat * 6) n (b.bs.length - o.toNat) zs W hzl (by omega) hb).mono fun e w' ⟨p, q⟩ => ⟨p, hW.after q, hb.below q, Nat.lt_of_lt_of_le hy q.size⟩
        unfold loadB
        by_cases hu : zs.any isUn = true
        · rw [if_pos hu]
          rw [hu] at HC
          exact load_hole hn hn1 HW (Lib.hid HS) hr (Lib.hid HC)
        · rw [if_neg hu]
          rw [show zs.any isUn = false by simpa using hu] at HC
          by_cases hb : T.bitsT (T.nums s) = 0
          · rw [if_neg (fun h => h hb)]
            rw [show decide (T.bitsT (T.nums s) ≠ 0) = false by simp [hb]] at HI
            have hx0 : zs[0]? = some (zs[0]?.getD By.zero) := by rw [List.getElem?_eq_getElem (by omega)]; rfl
            refine (load_ptr hn hn1 h4 (by omega) HW (Lib.hid HS) hr (Lib.hid HC) HI (Lib.hid hzl) (Lib.hid hx0)).mono fun e w' hh => ?_
            obtain ⟨⟨hp, he⟩ | ⟨⟨jj, hj, hp⟩, he⟩, hB⟩ := hh
            · rw [if_pos (by rw [hzl]; exact hp)]
              exact ⟨he, hB⟩
            · rw [if_neg (fun hall => hp (hall jj (by rw [hzl]; exact hj)))]
              exact ⟨he, hB⟩
          · rw [if_pos hb]
            rw [show decide (T.bitsT (T.nums s) ≠ 0) = true by simp [hb]] at HI
            have HN := fun W (hW : EnvD w W 2 ((j : Int) + 1) o) (hbb : BytesAt W (L.py j) (o.toNat * 6) zs) (hy : L.py j < W.heap.size) => (number_any s (L.py j) (o.toNat * 6) (b.bs.length - o.toNat) n zs W hzl h4 hy hbb)
            by_cases ha : zs.all (fun x => x.k == 1) = true
            · rw [if_pos ha]
              simp only [if_pos ha] at HN
              exact load_num hn hn1 HW (Lib.hid HS) hr (Lib.hid HC) HI (Lib.hid (fun W hW hbb hy => (HN W hW hbb hy).mono fun e w' ⟨p, q⟩ => ⟨p, hW.after q⟩ : NumD w 2 ((j : Int) + 1) o s n (L.py j) o.toNat (b.bs.length - o.toNat) zs _ _ _ _))
            · rw [if_neg ha]
              simp only [if_neg ha] at HN
              exact load_num hn hn1 HW (Lib.hid HS) hr (Lib.hid HC) HI (Lib.hid (fun W hW hbb hy => (HN W hW hbb hy).mono fun e w' ⟨p, q⟩ => ⟨p, hW.after q⟩ : NumD w 2 ((j : Int) + 1) o s n (L.py j) o.toNat (b.bs.length - o.toNat) zs _ _ _ _))
      · rw [if_pos hr]
        exact load_skew hn hn1 HW (Lib.hid HS) hr
    · rw [if_pos hE]
      have HR : ErrD w g k i o n (reachE st k i o n) := fun W hW => by
        obtain ⟨P, S, hf⟩ := reachR_form st L k i o n
        have := reach_any (h.below hW.below) k i o n i0 i1 (by omega)
        rw [hf] at this
        exact this.mono fun e w' ⟨x, y⟩ => ⟨⟨P, S, x⟩, hW.after y⟩
      exact load_err hn HW (Lib.hid HR) (by simpa using hE)
end
end Go.Proofs.YtejhphnlickjlaaDoor.bl
