/-
  The contract of gap.Play. Conditions: the list of sizes stands in memory, at most 4096 of them, none too great; the total is one that New takes.
-/
import Derived.Test.YtinjfmcmjhehoaaGapR
import Derived.Deep.RegionWith
import Derived.Deep.RegionHeld3
namespace Go.Proofs.Ytinjfmcmjhehoaa.gaps
open Go.ChangeShapes Go.WideShapes Go.ChangeAt Go.RowKit
open M G
set_option linter.unusedVariables false
theorem ints_get {l : List Int} {k : Nat} {x : Int} (h : l[k]? = some x) : (ints l)[k]? = some (.int .i64 x) := by simp [ints, h]
theorem plays_step {t : Int} {ns : List Int} {k : Nat} {x : Int} (h : ns[k]? = some x) : plays t (ns.take (k + 1)) = pstep (plays t (ns.take k)) x := by
  rw [List.take_add_one, h, plays, plays, List.foldl_append]; rfl
theorem rd_newi (W : World) (x : Int) : Rd (W.alloc (.cells #[.int .i64 x] 3)) (W.heap.size + 1) (some ⟨W.heap.size, 0, none⟩) (ints [x]) := fun _ =>
  ⟨_, rfl, by simp, fun j u hu => by
    rw [show (⟨W.heap.size, 0, none⟩ : Addr).add j = ⟨W.heap.size, j, none⟩ from by unfold Addr.add; split <;> simp_all, cn]
    simpa [ints] using hu⟩
theorem rd_newg {W : World} {g : Nat} (x y : Int) (hg : g = W.heap.size) : Rd (W.alloc (.cells #[.int .i64 x, .int .i64 y] 47)) (g + 1) (some ⟨g, 0, none⟩) (cells [(x, y)]) := by
  subst hg
  exact rd_new W x y
theorem rd_newx {W : World} {g : Nat} {x : Int} (hg : g = W.heap.size) : Rd (W.alloc (.cells #[.int .i64 x] 3)) (g + 1) (some ⟨g, 0, none⟩) (ints [x]) := by
  subst hg
  exact rd_newi W x
theorem below_undrew {B : Nat} {a w : World} (h : Below B a.drew w) : Below B a w := ⟨h.os, h.tape, h.output, h.size, h.block⟩
theorem cells_set1 (y1 y2 u : Int) : ∀ (l : List Gap) (j : Nat), l[j]? = some (y1, y2) → cells (l.set j (y1, u)) = (cells l).set (j * 2 + 1) (.int .i64 u)
  | [], j, h => by simp at h
  | g :: r, 0, h => by
    have : g = (y1, y2) := by simpa using h
    subst this
    rfl
  | g :: r, j + 1, h => by
    rw [List.set_cons_succ, cells_cons, cells_cons, cells_set1 y1 y2 u r j (by simpa using h), show (j + 1) * 2 + 1 = (j * 2 + 1) + 1 + 1 from by omega]
    rfl
set_option maxRecDepth 100000 in
set_option maxHeartbeats 3200000 in
theorem Play_ok (t : Int) (A : Option Addr) (n c : Nat) (ns : List Int) (w : World) (hl : ns.length = n) (hn : n ≤ 4096) (hA : Rd w w.heap.size A (ints ns)) (ht : okTotal t = true) (hbad : ns.any badSize = false) :
    Calls Try.prog 45 #[.int .i64 t, .slice A n c] w (PlayS w ((plays t ns).out, (plays t ns).l, 0)) := by
  obtain ⟨i0, hi, hz0, hz1, hz2⟩ := info_parts info47
  obtain ⟨i1, hj, hy0, hy1, hy2⟩ := info_parts info3
  have HA : Hid (∀ W : World, Below w.heap.size w W → Rd W W.heap.size A (ints ns)) := Lib.hid (fun W hb => (hA.below hb).more hb.size)
  have Hl := Lib.hid hl
  have HB : Hid (∀ x ∈ ns, -16777216 ≤ x ∧ x ≤ 16777216) := Lib.hid (fun x hx => by
    have := List.any_eq_false.1 hbad x hx
    simp [badSize] at this
    omega)
  have HC : Hid (∀ W : World, Rd W W.heap.size A (ints ns) → Calls Try.prog 60 #[.slice A n c, .func (.func 61) #[] #[]] W fun e w' => e = .returned (.bool false) ∧ Below W.heap.size W w') :=
    Lib.hid (fun W h => by have := contains_61 A n c ns W hl (by simp only [maxLen]; omega) h; rwa [hbad] at this)
  have HN : Hid (Calls Try.prog 36 #[.int .i64 t] w fun e w' => ∃ A c, e = .returned (.tuple #[.slice A (newL t).length c, .int .i64 0]) ∧ (newL t).length ≤ c ∧ w'.ownsRow w.heap.size 47 2 (.slice A (newL t).length c) (newL t).length (cells (newL t)) ∧ Below w.heap.size w w') :=
    Lib.hid (by have := new_s t w; rwa [show newE t = 0 from by simp [newE, ht]] at this)
  have HI := Lib.hid (fun k hk => inv_plays ht ns (fun x hx => (HB.out x hx).2) k hk)
  have HP := Lib.hid (fun k x (h : ns[k]? = some x) => plays_step (t := t) h)
  have Hfull : Hid (plays t (ns.take n) = plays t ns) := Lib.hid (by rw [← hl, List.take_length])
  have H0 : Hid (plays t (ns.take 0) = ⟨newL t, [], []⟩) := Lib.hid rfl
  have Ht := Lib.hid ht
  clear hl hA hbad ht
  go_enter Try.func45, Try.ntmps45
  go_wp2_with (first
    | (go_at_call 36; refine HN.out.mono ?_; rintro e w1 ⟨A1, c1, rfl, hk1, hown1, hb1⟩)
    | (go_at_call 60; refine (HC.out _ (HA.out _ hb1)).mono ?_; rintro e w2 ⟨rfl, hb2⟩))
  have b2 : Below w.heap.size w w2 := hb1.trans (hb2.mono hb1.size)
  have hown2 := own_call hown1 hb2
  obtain ⟨_, _, e0, hc1, hc1m⟩ := own_form hown2
  injection e0 with e0 _ e1
  subst e0 e1
  go_loopw [7, 9, 10, 33] (fun vl vo vt i wr => ∃ (k : Nat) (Al Ao At : Option Addr) (cl co ct : Nat), k ≤ n ∧ i = .int .i64 k ∧
      vl = .slice Al (plays t (ns.take k)).l.length cl ∧ vo = .slice Ao (plays t (ns.take k)).out.length co ∧ vt = .slice At (plays t (ns.take k)).tk.length ct ∧
      T3 wr w.heap.size (.slice Al (plays t (ns.take k)).l.length cl) (.slice At (plays t (ns.take k)).tk.length ct) (.slice Ao (plays t (ns.take k)).out.length co) (plays t (ns.take k)).l (plays t (ns.take k)).tk (plays t (ns.take k)).out ∧ Below w.heap.size w wr) (fun _ _ _ i _ => n - (intOf i).toNat)
  case atStart =>
    refine ⟨0, A1, none, none, c1, 0, 0, by omega, rfl, ?_⟩
    rw [H0.out]
    exact ⟨rfl, rfl, rfl, ⟨hown2, World.ownsRow_nil _ _ _ _, World.ownsRow_nil _ _ _ _, fun g _ h => by simp [Value.ownBlock] at h, fun g _ h => by simp [Value.ownBlock] at h, fun g _ h => by simp [Value.ownBlock] at h⟩, b2⟩
  case round =>
    obtain ⟨k, Al, Ao, At, cl, co, ct, hk, rfl, rfl, rfl, rfl, h3, hb⟩ := hrel
    by_cases hlt : k < n
    · have hI := HI.out k (by rw [Hl.out]; omega)
      obtain ⟨ad, p, x, rfl, hxk, hp, -, a1⟩ := rd_int (HA.out wr hb) (k := k) (by rw [Hl.out]; exact hlt)
      have HS := Lib.hid (HP.out k x hxk)
      obtain ⟨x1, x2⟩ := HB.out x (List.mem_of_getElem? hxk)
      clear hxk
      generalize plays t (ns.take k) = S at *
      obtain ⟨l, tk, out⟩ := S
      simp only at h3 ⊢
      obtain ⟨hchk, hll, htl, hol, hheld, -, -, -⟩ := hI
      simp only at hchk hll htl hol hheld
      obtain ⟨_, _, e0, hcl, hclm⟩ := own_form h3.ol
      injection e0 with e0 _ e1
      subst e0 e1
      obtain ⟨_, _, e0, hct, hctm⟩ := own_form h3.ot
      injection e0 with e0 _ e1
      subst e0 e1
      obtain ⟨_, _, e0, hco, hcom⟩ := own_form h3.oo
      injection e0 with e0 _ e1
      subst e0 e1
      have hsz := hb.size
      have hol2 : out.length ≤ 4096 := by omega
      clear hol
      have H3 := Lib.hid h3
      have Hchk := Lib.hid hchk
      have Hheld := Lib.hid hheld
      clear hchk hheld h3
      by_cases hpos : 0 < x
      · have HU : Hid (∀ W, Calls Try.prog 62 #[.int .i64 x] W fun e w' => e = .returned (.int .i64 (up x)) ∧ W = w') := Lib.hid (fun W => up_any x W (by omega) (by omega))
        obtain ⟨u1, u2, u3, u4⟩ := up_bd x (by omega) (by omega)
        by_cases hf : first l (up x) < l.length
        · have HS2 : Hid (plays t (ns.take (k + 1)) = ⟨takeL l (up x) (first l (up x)), tk ++ [((l.getD (first l (up x)) (0, 0)).1, up x)], out ++ [(l.getD (first l (up x)) (0, 0)).1]⟩) := Lib.hid (by rw [HS.out, pstep, if_pos hpos, if_pos hf])
          obtain ⟨y, hy, hmy⟩ := first_there hf
          have by1 := grain_bd (chk_bounds Hchk.out y (List.mem_of_getElem? hy))
          have HT : Hid (∀ W : World, Below wr.heap.size wr W → Calls Try.prog 57 #[.slice Al l.length cl, .int .i64 (up x)] W (TookS W l (up x))) := Lib.hid (fun W hW => took_any Al l.length cl l (up x) t W rfl (by omega) hcl ((Rd.of_own H3.out.ol).below hW |>.more hW.size) Ht.out Hchk.out (by omega) u2 hf)
          have hyy : (l.getD (first l (up x)) (0, 0)).1 = y.1 := by simp [List.getD, hy]
          unfold TookS at HT
          rw [hyy] at HS2 HT
          generalize y.1 = y1 at *
          generalize up x = m at *
          generalize takeL l m (first l m) = L at *
          clear hy hmy hf hyy
          go_wp2_with (first
            | (go_at_call 62; refine (HU.out _).mono ?_; rintro e w3 ⟨rfl, rfl⟩)
            | (go_at_call 57; refine (HT.out _ ((Below.refl _ _).alloc (Nat.le_refl _) _)).mono ?_; rintro e w4 ⟨A4, c4, rfl, hk4, hm4, hown4, hb4⟩; have hs4 := hb4.size; simp at hs4; have m0 := cv hb4 (cn wr #[.int .i64 (-1), .int .i64 0] 47 0) (by simp); have m1 := cv hb4 (cn wr #[.int .i64 (-1), .int .i64 0] 47 1) (by simp); have f0 : w4.frozen? ⟨wr.heap.size, 0, none⟩ = false := (hb4.frozen (p := ⟨wr.heap.size, 0, none⟩) (by simp)).trans (fn wr _ _ _); have f1 : w4.frozen? ⟨wr.heap.size, 1, none⟩ = false := (hb4.frozen (p := ⟨wr.heap.size, 1, none⟩) (by simp)).trans (fn wr _ _ _); have T4 : T3 ((w4.setCell ⟨wr.heap.size, 0, none⟩ (.int .i64 y1)).setCell ⟨wr.heap.size, 1, none⟩ (.int .i64 m)) w.heap.size (.slice A4 L.length c4) (.slice At tk.length ct) (.slice Ao out.length co) L tk out := (((H3.out.alloc _).fresh hb4 (by simp; omega) hown4).other (grown_setCell w4 ⟨wr.heap.size, 0, none⟩ _) (fun e => absurd (hown4.lt _ e).1 (by simp)) (fun e => absurd (H3.out.ot.lt _ e).2 (Nat.lt_irrefl _)) (fun e => absurd (H3.out.oo.lt _ e).2 (Nat.lt_irrefl _))).other (grown_setCell _ ⟨wr.heap.size, 1, none⟩ _) (fun e => absurd (hown4.lt _ e).1 (by simp)) (fun e => absurd (H3.out.ot.lt _ e).2 (Nat.lt_irrefl _)) (fun e => absurd (H3.out.oo.lt _ e).2 (Nat.lt_irrefl _)); have b4 : Below w.heap.size w ((w4.setCell ⟨wr.heap.size, 0, none⟩ (.int .i64 y1)).setCell ⟨wr.heap.size, 1, none⟩ (.int .i64 m)) := (((hb.alloc hsz _).trans (hb4.mono (by simp; omega))).setCell (p := ⟨wr.heap.size, 0, none⟩) hsz _).setCell (p := ⟨wr.heap.size, 1, none⟩) hsz _)
            | (at_builtin; refine wpList_append_rs _ rfl (.tmp 56) (.tmp 58) 39 rfl w.heap.size 47 i0 _ 2 16 Try.underlying39 hi hz0 hz1 hz2 rfl (by omega) (.slice At tk.length ct) tk.length (cells tk) rfl (T4.ot.alloc _) _ (some ⟨w4.heap.size, 0, none⟩) 1 1 (cells [(y1, m)]) rfl rfl (rd_newg _ _ (by simp)) (cells_one _) (by simp only [maxLen]; omega) (by omega) (by simp; omega) ?_; intro A5 c5 w5 hk5 hm5 hown5 hg5 hat5; rw [← cells_append] at hown5; have hs5 := hg5.size; simp at hs5; have T5 : T3 w5 w.heap.size (.slice A4 L.length c4) (.slice A5 (tk.length + 1) c5) (.slice Ao out.length co) L (tk ++ [(y1, m)]) out := (T4.alloc _).appT hg5 (by simpa using hown5) hat5; have b5 : Below w.heap.size w w5 := (b4.alloc (by simp; omega) _).grown hg5 (by simp; omega) (fun g hg => (H3.out.ot.lt g hg).1))
            | (at_builtin; refine wpList_append_rs _ rfl (.tmp 97) (.tmp 99) 49 rfl w.heap.size 3 i1 _ 1 8 Try.underlying49 hj hy0 hy1 hy2 rfl (by omega) (.slice Ao out.length co) out.length (ints out) rfl (T5.oo.alloc _) _ (some ⟨w5.heap.size, 0, none⟩) 1 1 (ints [y1]) rfl rfl (rd_newi w5 _) (ints_one _) (by simp only [maxLen]; omega) (by omega) (by simp; omega) ?_; intro A6 c6 w6 hk6 hm6 hown6 hg6 hat6; rw [← ints_append] at hown6; have T6 := (T5.alloc _).appO (out' := out ++ [y1]) (vo' := .slice A6 (out.length + 1) c6) hg6 (by simpa using hown6) hat6; have b6 : Below w.heap.size w w6 := (b5.alloc (by have := b5.size; omega) _).grown hg6 (by have := b5.size; simp; omega) (fun g hg => (H3.out.oo.lt g hg).1)))
          go_roundw
          case rel =>
            refine ⟨k + 1, A4, A6, A5, c4, c6, c5, by omega, by go_num, ?_⟩
            rw [HS2.out]
            simp only [List.length_append, List.length_cons, List.length_nil, Nat.zero_add]
            exact ⟨trivial, trivial, trivial, T6, b6⟩
          case measure => simp [intOf]; omega
        · have HS2 : Hid (plays t (ns.take (k + 1)) = ⟨l, tk ++ [(-1, 0)], out ++ [-1]⟩) := Lib.hid (by rw [HS.out, pstep, if_pos hpos, if_neg hf])
          have hf' : first l (up x) = l.length := by have := first_le l (up x); omega
          have HT : Hid (∀ W : World, Below wr.heap.size wr W → Calls Try.prog 57 #[.slice Al l.length cl, .int .i64 (up x)] W fun e w' => e = .returned (.tuple #[.slice none 0 0, .int .i64 (-1)]) ∧ Below W.heap.size W w') := Lib.hid (fun W hW => take_no Al l.length cl l (up x) W rfl (by omega) ((Rd.of_own H3.out.ol).below hW |>.more hW.size) hf')
          generalize up x = m at *
          clear hf hf'
          go_wp2_with (first
            | (go_at_call 62; refine (HU.out _).mono ?_; rintro e w3 ⟨rfl, rfl⟩)
            | (go_at_call 57; refine (HT.out _ ((Below.refl _ _).alloc (Nat.le_refl _) _)).mono ?_; rintro e w4 ⟨rfl, hb4⟩; have hs4 := hb4.size; simp at hs4; have m0 := cv hb4 (cn wr #[.int .i64 (-1), .int .i64 0] 47 0) (by simp); have m1 := cv hb4 (cn wr #[.int .i64 (-1), .int .i64 0] 47 1) (by simp); have T4 : T3 w4 w.heap.size (.slice Al l.length cl) (.slice At tk.length ct) (.slice Ao out.length co) l tk out := (H3.out.alloc _).call hb4; have b4 : Below w.heap.size w w4 := (hb.alloc hsz _).trans (hb4.mono (by simp; omega)))
            | (at_builtin; refine wpList_append_rs _ rfl (.tmp 56) (.tmp 58) 39 rfl w.heap.size 47 i0 _ 2 16 Try.underlying39 hi hz0 hz1 hz2 rfl (by omega) (.slice At tk.length ct) tk.length (cells tk) rfl (T4.ot.alloc _) _ (some ⟨w4.heap.size, 0, none⟩) 1 1 (cells [(-1, 0)]) rfl rfl (rd_newg _ _ (by simp)) (cells_one _) (by simp only [maxLen]; omega) (by omega) (by simp; omega) ?_; intro A5 c5 w5 hk5 hm5 hown5 hg5 hat5; rw [← cells_append] at hown5; have hs5 := hg5.size; simp at hs5; have T5 : T3 w5 w.heap.size (.slice Al l.length cl) (.slice A5 (tk.length + 1) c5) (.slice Ao out.length co) l (tk ++ [(-1, 0)]) out := (T4.alloc _).appT hg5 (by simpa using hown5) hat5; have b5 : Below w.heap.size w w5 := (b4.alloc (by have := b4.size; omega) _).grown hg5 (by simp; omega) (fun g hg => (H3.out.ot.lt g hg).1))
            | (at_builtin; refine wpList_append_rs _ rfl (.tmp 97) (.tmp 99) 49 rfl w.heap.size 3 i1 _ 1 8 Try.underlying49 hj hy0 hy1 hy2 rfl (by omega) (.slice Ao out.length co) out.length (ints out) rfl (T5.oo.alloc _) _ (some ⟨w5.heap.size, 0, none⟩) 1 1 (ints [-1]) rfl rfl (rd_newi w5 _) (ints_one _) (by simp only [maxLen]; omega) (by omega) (by simp; omega) ?_; intro A6 c6 w6 hk6 hm6 hown6 hg6 hat6; rw [← ints_append] at hown6; have T6 := (T5.alloc _).appO (out' := out ++ [-1]) (vo' := .slice A6 (out.length + 1) c6) hg6 (by simpa using hown6) hat6; have b6 : Below w.heap.size w w6 := (b5.alloc (by have := b5.size; omega) _).grown hg6 (by have := b5.size; simp; omega) (fun g hg => (H3.out.oo.lt g hg).1)))
          go_roundw
          case rel =>
            refine ⟨k + 1, Al, A6, A5, cl, c6, c5, by omega, by go_num, ?_⟩
            rw [HS2.out]
            simp only [List.length_append, List.length_cons, List.length_nil, Nat.zero_add]
            exact ⟨trivial, trivial, trivial, T6, b6⟩
          case measure => simp [intOf]; omega
      · by_cases hneg : x < 0 ∧ -x ≤ tk.length ∧ 0 < (tk.getD (-x - 1).toNat (0, 0)).2
        · obtain ⟨hx0, hx1, hx9⟩ := hneg
          have hjl : (-x - 1).toNat < tk.length := by omega
          obtain ⟨g, e0, hg⟩ := own_some H3.out.ot (by omega)
          subst e0
          obtain ⟨y1, y2, hy⟩ : ∃ y1 y2, tk[(-x - 1).toNat]? = some (y1, y2) := ⟨_, _, List.getElem?_eq_getElem hjl⟩
          have eg : tk.getD (-x - 1).toNat (0, 0) = (y1, y2) := by rw [List.getD, hy]; rfl
          rw [eg] at hx9
          have HS2 : Hid (plays t (ns.take (k + 1)) = ⟨giveL l (y1, y2), tk.set ((-x).toNat - 1) (y1, 0), out ++ [y1]⟩) := Lib.hid (by
            rw [HS.out, pstep, if_neg hpos, if_pos ⟨hx0, hx1, by rw [eg]; exact hx9⟩, eg, show (-x - 1).toNat = (-x).toNat - 1 from by omega])
          obtain ⟨q1, q2⟩ := cells_get _ _ _ hy
          have ej : (-x - 1).toNat = (-x).toNat - 1 := by omega
          rw [ej] at q1 q2
          have q3 := (H3.out.ot.cellAt (((-x).toNat - 1) * 2) (by omega)).trans q1
          have q4 := (H3.out.ot.cellAt (((-x).toNat - 1) * 2 + 1) (by omega)).trans q2
          have fr4 := H3.out.ot.frozenAt (((-x).toNat - 1) * 2 + 1)
          have hgl : g < wr.heap.size := (H3.out.ot.lt g rfl).2
          have hgr := grain_bd ((Hheld.out (y1, y2) (List.mem_of_getElem? hy)).2 hx9).1
          simp only at hgr hx9
          have tb := okTotal_bd Ht.out
          have HG : Hid (∀ W : World, Below wr.heap.size wr W → Calls Try.prog 63 #[.slice Al l.length cl, .agg #[.int .i64 y1, .int .i64 y2]] W fun e w' => ∃ A' c', e = .returned (.slice A' (giveL l (y1, y2)).length c') ∧ (giveL l (y1, y2)).length ≤ c' ∧ c' ≤ maxLen ∧
              w'.ownsRow W.heap.size 47 2 (.slice A' (giveL l (y1, y2)).length c') (giveL l (y1, y2)).length (cells (giveL l (y1, y2))) ∧ Below W.heap.size W w') :=
            Lib.hid (fun W hW => give_any Al l.length cl l y1 y2 W rfl (by omega) hcl hclm ((Rd.of_own H3.out.ol).below hW |>.more hW.size) (fun g hg => by have := grain_bd (chk_bounds Hchk.out g hg); omega) (by omega) (by omega) (by omega) (by omega))
          have Hset : Hid (∀ u : Int, cells (tk.set ((-x).toNat - 1) (y1, u)) = (cells tk).set (((-x).toNat - 1) * 2 + 1) (.int .i64 u)) := Lib.hid (fun u => cells_set1 y1 y2 u tk _ (ej ▸ hy))
          have hx2 : 0 ≤ -x - 1 := by omega
          have hx3 : -x - 1 < tk.length := by omega
          generalize giveL l (y1, y2) = L at *
          clear q1 q2 hy ej eg
          go_wp2_with fail
          go_region_held3 (fun w' => w'.cell? ⟨wr.heap.size, 0, none⟩ = some (.int .i64 y1) ∧ w'.cell? ⟨wr.heap.size, 1, none⟩ = some (.int .i64 y2))
            (first | go_keep | (exact ⟨cv hb4 (by simp [*]) (by simp), cv hb4 (by simp [*]) (by simp)⟩))
            ((go_at_call 63; refine (HG.out _ (((Below.refl _ _).alloc (Nat.le_refl _) _).drew)).mono ?_; rintro e w4 ⟨A4, c4, rfl, hk4, hm4, hown4, hb4⟩))
          have T4 : T3 w4 w.heap.size (.slice A4 L.length c4) (.slice (some ⟨g, 0, none⟩) tk.length ct) (.slice Ao out.length co) L tk out := (H3.out.alloc _).fresh (w' := w4) (below_undrew hb4) (by simp; omega) (by simpa using hown4)
          have b4 : Below w.heap.size w w4 := (hb.alloc hsz _).trans ((below_undrew hb4).mono (by simp; omega))
          have q5 : w4.cell? ⟨g, ((-x).toNat - 1) * 2 + 1, none⟩ = some (.int .i64 y2) := cv hb4 (ca q4 _) (by simp; omega)
          have fr5 : w4.frozen? ⟨g, ((-x).toNat - 1) * 2 + 1, none⟩ = false := T4.ot.frozenAt (((-x).toNat - 1) * 2 + 1)
          have T5 : T3 (w4.setCell ⟨g, ((-x).toNat - 1) * 2 + 1, none⟩ (.int .i64 0)) w.heap.size (.slice A4 L.length c4) (.slice (some ⟨g, 0, none⟩) tk.length ct) (.slice Ao out.length co) L (tk.set ((-x).toNat - 1) (y1, 0)) out := T4.setT rfl _ (Hset.out 0) (by simp)
          have b5 : Below w.heap.size w (w4.setCell ⟨g, ((-x).toNat - 1) * 2 + 1, none⟩ (.int .i64 0)) := b4.setCell (p := ⟨g, ((-x).toNat - 1) * 2 + 1, none⟩) hg _
          clear q3 q4 fr4
          have hs4 := b4.size
          go_wp2_with (first | (at_builtin; refine wpList_append_rs _ rfl (.tmp 97) (.tmp 99) 49 rfl w.heap.size 3 i1 _ 1 8 Try.underlying49 hj hy0 hy1 hy2 rfl (by omega) (.slice Ao out.length co) out.length (ints out) rfl (T5.oo.alloc _) _ (some ⟨w4.heap.size, 0, none⟩) 1 1 (ints [y1]) rfl rfl (rd_newx (by simp)) (ints_one _) (by simp only [maxLen]; omega) (by omega) (by simp; omega) ?_; intro A6 c6 w6 hk6 hm6 hown6 hg6 hat6; rw [← ints_append] at hown6; have T6 := (T5.alloc _).appO (out' := out ++ [y1]) (vo' := .slice A6 (out.length + 1) c6) hg6 (by simpa using hown6) hat6; have b6 : Below w.heap.size w w6 := (b5.alloc (by have := b5.size; omega) _).grown hg6 (by have := b5.size; simp; omega) (fun g hg => (H3.out.oo.lt g hg).1)))
          go_roundw
          case rel =>
            refine ⟨k + 1, A4, A6, some ⟨g, 0, none⟩, c4, c6, ct, by omega, by go_num, ?_⟩
            rw [HS2.out]
            simp only [List.length_append, List.length_cons, List.length_nil, Nat.zero_add, List.length_set]
            exact ⟨trivial, trivial, trivial, by simpa using T6, b6⟩
          case measure => simp [intOf]; omega
        · have HS2 : Hid (plays t (ns.take (k + 1)) = ⟨l, tk, out ++ [-1]⟩) := Lib.hid (by rw [HS.out, pstep, if_neg hpos, if_neg hneg])
          have T5 := H3.out
          have b5 := hb
          have HN := Lib.hid hneg
          clear hneg
          by_cases hx0 : x < 0
          · by_cases hx1 : -x ≤ tk.length
            · have hjl : (-x - 1).toNat < tk.length := by omega
              obtain ⟨g, e0, hg⟩ := own_some H3.out.ot (by omega)
              subst e0
              obtain ⟨y1, y2, hy⟩ : ∃ y1 y2, tk[(-x - 1).toNat]? = some (y1, y2) := ⟨_, _, List.getElem?_eq_getElem hjl⟩
              obtain ⟨q1, q2⟩ := cells_get _ _ _ hy
              have ej : (-x - 1).toNat = (-x).toNat - 1 := by omega
              have q3 := (H3.out.ot.cellAt (((-x).toNat - 1) * 2 + 1) (by omega)).trans (ej ▸ q2)
              have hz2 : ¬ 0 < y2 := fun h => HN.out ⟨hx0, hx1, by rw [List.getD, hy]; exact h⟩
              have hx2 : 0 ≤ -x - 1 := by omega
              have hx3 : -x - 1 < tk.length := by omega
              clear q1 q2 hy ej
              go_wp2_with (first | (at_builtin; refine wpList_append_rs _ rfl (.tmp 97) (.tmp 99) 49 rfl w.heap.size 3 i1 _ 1 8 Try.underlying49 hj hy0 hy1 hy2 rfl (by omega) (.slice Ao out.length co) out.length (ints out) rfl (T5.oo.alloc _) _ (some ⟨wr.heap.size, 0, none⟩) 1 1 (ints [-1]) rfl rfl (rd_newi wr _) (ints_one _) (by simp only [maxLen]; omega) (by omega) (by simp; omega) ?_; intro A6 c6 w6 hk6 hm6 hown6 hg6 hat6; rw [← ints_append] at hown6; have T6 := (T5.alloc _).appO (out' := out ++ [-1]) (vo' := .slice A6 (out.length + 1) c6) hg6 (by simpa using hown6) hat6; have b6 : Below w.heap.size w w6 := (b5.alloc (by have := b5.size; omega) _).grown hg6 (by have := b5.size; simp; omega) (fun g hg => (H3.out.oo.lt g hg).1)))
              go_roundw
              case rel =>
                refine ⟨k + 1, Al, A6, some ⟨g, 0, none⟩, cl, c6, ct, by omega, by go_num, ?_⟩
                rw [HS2.out]
                simp only [List.length_append, List.length_cons, List.length_nil, Nat.zero_add]
                exact ⟨trivial, trivial, trivial, T6, b6⟩
              case measure => simp [intOf]; omega
            · go_wp2_with (first | (at_builtin; refine wpList_append_rs _ rfl (.tmp 97) (.tmp 99) 49 rfl w.heap.size 3 i1 _ 1 8 Try.underlying49 hj hy0 hy1 hy2 rfl (by omega) (.slice Ao out.length co) out.length (ints out) rfl (T5.oo.alloc _) _ (some ⟨wr.heap.size, 0, none⟩) 1 1 (ints [-1]) rfl rfl (rd_newi wr _) (ints_one _) (by simp only [maxLen]; omega) (by omega) (by simp; omega) ?_; intro A6 c6 w6 hk6 hm6 hown6 hg6 hat6; rw [← ints_append] at hown6; have T6 := (T5.alloc _).appO (out' := out ++ [-1]) (vo' := .slice A6 (out.length + 1) c6) hg6 (by simpa using hown6) hat6; have b6 : Below w.heap.size w w6 := (b5.alloc (by have := b5.size; omega) _).grown hg6 (by have := b5.size; simp; omega) (fun g hg => (H3.out.oo.lt g hg).1)))
              go_roundw
              case rel =>
                refine ⟨k + 1, Al, A6, At, cl, c6, ct, by omega, by go_num, ?_⟩
                rw [HS2.out]
                simp only [List.length_append, List.length_cons, List.length_nil, Nat.zero_add]
                exact ⟨trivial, trivial, trivial, T6, b6⟩
              case measure => simp [intOf]; omega
          · go_wp2_with (first | (at_builtin; refine wpList_append_rs _ rfl (.tmp 97) (.tmp 99) 49 rfl w.heap.size 3 i1 _ 1 8 Try.underlying49 hj hy0 hy1 hy2 rfl (by omega) (.slice Ao out.length co) out.length (ints out) rfl (T5.oo.alloc _) _ (some ⟨wr.heap.size, 0, none⟩) 1 1 (ints [-1]) rfl rfl (rd_newi wr _) (ints_one _) (by simp only [maxLen]; omega) (by omega) (by simp; omega) ?_; intro A6 c6 w6 hk6 hm6 hown6 hg6 hat6; rw [← ints_append] at hown6; have T6 := (T5.alloc _).appO (out' := out ++ [-1]) (vo' := .slice A6 (out.length + 1) c6) hg6 (by simpa using hown6) hat6; have b6 : Below w.heap.size w w6 := (b5.alloc (by have := b5.size; omega) _).grown hg6 (by have := b5.size; simp; omega) (fun g hg => (H3.out.oo.lt g hg).1)))
            go_roundw
            case rel =>
              refine ⟨k + 1, Al, A6, At, cl, c6, ct, by omega, by go_num, ?_⟩
              rw [HS2.out]
              simp only [List.length_append, List.length_cons, List.length_nil, Nat.zero_add]
              exact ⟨trivial, trivial, trivial, T6, b6⟩
            case measure => simp [intOf]; omega
    · obtain rfl : k = n := by omega
      rw [Hfull.out] at h3 ⊢
      have H3 := Lib.hid h3
      clear h3
      go_wp2_with fail
      go_ret3
      obtain ⟨_, _, e0, hcl, hclm⟩ := own_form H3.out.ol
      injection e0 with e0 _ e1
      subst e0 e1
      obtain ⟨_, _, e0, hco, hcom⟩ := own_form H3.out.oo
      injection e0 with e0 _ e1
      subst e0 e1
      exact ⟨_, _, _, _, rfl, hco, hcom, hcl, hclm, H3.out.oo, H3.out.ol, hb⟩
end Go.Proofs.Ytinjfmcmjhehoaa.gaps
