/-
  The walk of the law GapTakes, and how a list of gaps that came in is read. No condition but the reach that the form itself states.
-/
import Derived.Test.YtinjfmcmjhehoaaGapE
import Derived.Deep.Slices
import Derived.ChangeSame
namespace Go.Proofs.Ytinjfmcmjhehoaa.gaps
open Go.ChangeShapes Go.WideShapes Go.ChangeAt Go.RowKit
open M G
set_option linter.unusedVariables false
/-- the append law, its answer written out as a slice -/
theorem wpList_append_rs {P : Program} (w : World) {ops : Array Oper} {rest : List Oper} {o : Oper} {a : Act} {Q : Exit → Act → World → Prop} (hgd : o.guard = none) (s x : Operand) (t : TypeId)
    (ho : o.op = .call { callee := .builtin .append, args := #[s, x], argTypes := #[t, t] })
    (base : Nat) (e : TypeId) (i : TypeInfo) (z : Value) (size bytes : Nat) (ht : P.underlying t = some (.slice e)) (hi : P.info? e = some i) (hz : i.zero = some z)
    (hsize : i.size = size) (hby : i.bytes = bytes) (hzs : z.cells.size = size) (hsz : 0 < size)
    (v : Value) (n : Nat) (xs : List Value) (hs : a.eval s = v) (hown : w.ownsRow base e size v n xs)
    (B : Nat) (A : Option Addr) (m c : Nat) (news : List Value) (hx : a.eval x = .slice A m c) (hl : news.length = m * size) (hr : Rd w B A news) (h1 : ∀ u ∈ news, u.oneCell' = true)
    (h63 : n + m ≤ maxLen) (hbytes : (n + m) * bytes ≤ 140737488355328) (hbase : base ≤ w.heap.size)
    (h : ∀ A' c' w', n + m ≤ c' → c' ≤ maxLen → w'.ownsRow base e size (.slice A' (n + m) c') (n + m) (xs ++ news) → w.grownBy w' v.ownBlock →
      (Value.ownBlock (.slice A' (n + m) c') = v.ownBlock ∨ Value.ownBlock (.slice A' (n + m) c') = some w.heap.size) → wpList P ops Q rest (a.put o.dst (.slice A' (n + m) c')) w') : wpList P ops Q (o :: rest) a w :=
  wpList_append_rd w hgd s x t ho base e i z size bytes ht hi hz hsize hby hzs hsz v n xs hs hown B A m c news hx hl hr h1 h63 hbytes hbase fun v' w' h2 h3 h4 => by
    obtain ⟨A', c', rfl, g1, g2⟩ := own_form h2
    exact h A' c' w' g1 g2 h2 h3 h4
theorem new_s (t : Int) (w : World) : Calls Try.prog 36 #[.int .i64 t] w fun e w' => ∃ A c, e = .returned (.tuple #[.slice A (newL t).length c, .int .i64 (newE t)]) ∧ (newL t).length ≤ c ∧ w'.ownsRow w.heap.size 47 2 (.slice A (newL t).length c) (newL t).length (cells (newL t)) ∧ Below w.heap.size w w' :=
  (new_any t w).mono fun e w' ⟨v, he, ho, hb⟩ => by
    obtain ⟨A, c, rfl, g1, _⟩ := own_form ho
    exact ⟨A, c, he, g1, ho, hb⟩
theorem rnew_s (t : Int) (w : World) : Calls Try.prog 37 #[.int .i64 t] w fun e w' => ∃ A c, e = .returned (.tuple #[.slice A (newL t).length c, .int .i64 (newE t)]) ∧ (newL t).length ≤ c ∧ w'.ownsRow w.heap.size 47 2 (.slice A (newL t).length c) (newL t).length (cells (newL t)) ∧ Below w.heap.size w w' :=
  (rnew_any t w).mono fun e w' ⟨v, he, ho, hb⟩ => by
    obtain ⟨A, c, rfl, g1, _⟩ := own_form ho
    exact ⟨A, c, he, g1, ho, hb⟩
def TakeS (w : World) (r : List Gap) (a er : Int) (e : Ending) (w' : World) : Prop :=
  ∃ A c, e = .returned (.tuple #[.slice A r.length c, .int .i64 a, .int .i64 er]) ∧ r.length ≤ c ∧ c ≤ maxLen ∧ w'.ownsRow w.heap.size 47 2 (.slice A r.length c) r.length (cells r) ∧ Below w.heap.size w w'
theorem TakeRes.form {w w' : World} {r : List Gap × Int × Int} {e : Ending} (h : TakeRes w r e w') : TakeS w r.1 r.2.1 r.2.2 e w' := by
  obtain ⟨v, he, ho, hb⟩ := h
  obtain ⟨A, c, rfl, g1, g2⟩ := own_form ho
  exact ⟨A, c, he, g1, g2, ho, hb⟩
theorem same_self (A B : Option Addr) (n c d : Nat) (hn : n ≤ maxLen) (w : World) (xs : List Gap) (hx : xs.length = n) (hA : Rd w w.heap.size A (cells xs)) (hB : Rd w w.heap.size B (cells xs)) :
    Calls Try.prog 38 #[.slice A n c, .slice B n d] w fun e w' => e = .returned (.bool true) ∧ Below w.heap.size w w' :=
  (same_any A B n c d hn w xs xs hx hx hA hB).mono fun e w' ⟨he, k, hk⟩ => ⟨by rw [he]; simp, by subst hk; exact ⟨rfl, rfl, rfl, Nat.le_refl _, fun _ _ => rfl⟩⟩
theorem rd_later {w0 : World} {B n c : Nat} {A : Option Addr} {xs : List Value} (h : w0.ownsRow B 47 2 (.slice A n c) n xs) : ∀ W : World, Below w0.heap.size w0 W → Rd W W.heap.size A xs :=
  fun W hb => ((Rd.of_own h).below hb).more hb.size
theorem own_some {w : World} {B size n m c : Nat} {e : TypeId} {A : Option Addr} {xs : List Value} (h : w.ownsRow B e size (.slice A m c) n xs) (hn : 0 < n) : ∃ g, A = some ⟨g, 0, none⟩ ∧ B ≤ g := by
  rcases h.2 with ⟨_, h0⟩ | ⟨g, cap, cur, hv, hg, _⟩
  · omega
  · injection hv with hv
    exact ⟨g, hv, hg⟩
theorem newL_len (t : Int) : (newL t).length ≤ maxLen := by
  unfold newL maxLen
  split <;> simp
set_option maxRecDepth 100000 in
set_option maxHeartbeats 800000 in
theorem law_takes (t s : Int) (A : Option Addr) (n c : Nat) (l : List Gap) (w : World) (hl : l.length = n) (hreach : n * 16 ≤ 140737488351232) (hc : n ≤ c) (hcm : c ≤ maxLen) (hA : Rd w w.heap.size A (cells l)) :
    Calls Try.prog 5 #[.int .i64 t, .slice A n c, .int .i64 s] w fun e w' => e = .returned (.bool true) ∧ Below w.heap.size w w' := by
  obtain ⟨i0, hi, hz0, hz1, hz2⟩ := info_parts info47
  have hnm : n ≤ maxLen := by unfold maxLen; omega
  have HA : Hid (∀ W : World, Below w.heap.size w W → Rd W W.heap.size A (cells l)) := Lib.hid (fun W hb => (hA.below hb).more hb.size)
  have HT1 : Hid (∀ (W : World) (A' : Option Addr) (c' : Nat), n ≤ c' → Rd W W.heap.size A' (cells l) → Calls Try.prog 41 #[.int .i64 t, .slice A' n c', .int .i64 s] W (TakeS W (takeA t l s).1 (takeA t l s).2.1 (takeA t l s).2.2)) :=
    Lib.hid (fun W A' c' h1 h2 => (Take_any t A' n c' l s W hl hnm h1 h2).mono fun _ _ h => h.form)
  have HT2 : Hid (∀ (W : World), Rd W W.heap.size A (cells l) → Calls Try.prog 42 #[.int .i64 t, .slice A n c, .int .i64 s] W (TakeS W (takeA t l s).1 (takeA t l s).2.1 (takeA t l s).2.2)) :=
    Lib.hid (fun W h2 => (rTake_any t A n c l s W hl hnm hc hcm h2).mono fun _ _ h => h.form)
  have HC1 : Hid (∀ (W : World) (A' : Option Addr) (c' : Nat), Rd W W.heap.size A' (cells l) → Calls Try.prog 39 #[.int .i64 t, .slice A' n c'] W fun e w' => e = .returned (.int .i64 (checkE t l)) ∧ Below W.heap.size W w') :=
    Lib.hid (fun W A' c' h2 => check_any t A' n c' l W hl hnm h2)
  have HC2 : Hid (∀ (W : World), Rd W W.heap.size A (cells l) → Calls Try.prog 40 #[.int .i64 t, .slice A n c] W fun e w' => e = .returned (.int .i64 (checkE t l)) ∧ Below W.heap.size W w') :=
    Lib.hid (fun W h2 => rcheck_any t A n c l W hl hnm h2)
  have HS : Hid (∀ (W : World) (A' B' : Option Addr) (c' d' : Nat), Rd W W.heap.size A' (cells l) → Rd W W.heap.size B' (cells l) → Calls Try.prog 38 #[.slice A' n c', .slice B' n d'] W fun e w' => e = .returned (.bool true) ∧ Below W.heap.size W w') :=
    Lib.hid (fun W A' B' c' d' h1 h2 => same_self A' B' n c' d' hnm W l hl h1 h2)
  have Hl := Lib.hid hl
  clear hl hA
  generalize checkE t l = ce at *
  generalize takeA t l s = r at *
  obtain ⟨r, a, er⟩ := r
  simp only at HT1 HT2
  go_enter Try.func5, Try.ntmps5
  go_wp2_with (first
    | (at_builtin; refine wpList_append_rs _ rfl (.tmp 17) (.tmp 18) 39 rfl w.heap.size 47 i0 _ 2 16 Try.underlying39 hi hz0 hz1 hz2 rfl (by omega) (.slice (some ⟨w.heap.size, 0, none⟩) 0 0) 0 [] rfl (own_empty w _ (Nat.le_refl _)) _ A n c (cells l) rfl (by rw [cells_length, Hl.out]) (HA.out _ ((Below.refl _ _).alloc (Nat.le_refl _) _)) (cells_one _) (by omega) (by omega) (by simp) ?_; intro A0 c0 w0 hq0 hm0 hown0 hg0 hat0; simp only [Nat.zero_add, List.nil_append] at hown0 hq0; have hb0 : Below w.heap.size w w0 := ((Below.refl _ _).alloc (Nat.le_refl _) _).grown hg0 (by simp) (fun g hg => Nat.le_of_eq (lit_block hg)); have H0 := Lib.hid (rd_later hown0))
    | (go_at_call 36; refine (new_s t _).mono ?_; rintro e w1 ⟨A1, c1, rfl, hk1, hown1, hb1⟩)
    | (go_at_call 37; refine (rnew_s t _).mono ?_; rintro e w2 ⟨A2, c2, rfl, hk2, hown2, hb2⟩))
  refine (same_self _ _ _ _ _ (newL_len t) _ _ rfl ((Rd.of_own hown1).below hb2 |>.size) (Rd.of_own hown2)).mono ?_
  rintro e w3 ⟨rfl, hb3⟩
  have b3 : Below w0.heap.size w0 w3 := (hb1.trans (hb2.mono hb1.size)).trans (hb3.mono (Nat.le_trans hb1.size hb2.size))
  have b3' : Below w.heap.size w w3 := hb0.trans (b3.mono hb0.size)
  go_wp2_with (first
    | (go_at_call 39; refine (HC1.out _ A0 c0 (H0.out _ b3)).mono ?_; rintro e w4 ⟨rfl, hb4⟩)
    | (go_at_call 40; refine (HC2.out _ (HA.out _ (b3'.trans (hb4.mono b3'.size)))).mono ?_; rintro e w5 ⟨rfl, hb5⟩; have b5 : Below w0.heap.size w0 w5 := (b3.trans (hb4.mono b3.size)).trans (hb5.mono (Nat.le_trans b3.size hb4.size)); have b5' : Below w.heap.size w w5 := hb0.trans (b5.mono hb0.size))
    | (go_at_call 41; refine (HT1.out _ A0 c0 hq0 (H0.out _ b5)).mono ?_; rintro e w6 ⟨A6, c6, rfl, hk6, hm6, hown6, hb6⟩; have b6' : Below w.heap.size w w6 := b5'.trans (hb6.mono b5'.size); have b6 : Below w0.heap.size w0 w6 := b5.trans (hb6.mono b5.size))
    | (go_at_call 42; refine (HT2.out _ (HA.out _ b6')).mono ?_; rintro e w7 ⟨A7, c7, rfl, hk7, hm7, hown7, hb7⟩; have b7' : Below w.heap.size w w7 := b6'.trans (hb7.mono b6'.size); have b7 : Below w0.heap.size w0 w7 := b6.trans (hb7.mono b6.size)))
  refine (same_self _ _ _ _ _ (Nat.le_trans hk6 hm6) _ _ rfl ((Rd.of_own hown6).below hb7 |>.size) (Rd.of_own hown7)).mono ?_
  rintro e w8 ⟨rfl, hb8⟩
  have b8' : Below w.heap.size w w8 := b7'.trans (hb8.mono b7'.size)
  have b8 : Below w0.heap.size w0 w8 := b7.trans (hb8.mono b7.size)
  go_wp2_with fail
  refine (HS.out _ A0 A c0 c (H0.out _ b8) (HA.out _ b8')).mono ?_
  rintro e w9 ⟨rfl, hb9⟩
  have b9' : Below w.heap.size w w9 := b8'.trans (hb9.mono b8'.size)
  have b9 : Below w0.heap.size w0 w9 := b8.trans (hb9.mono b8.size)
  have hown9 := own_below_size (own_below_size (own_below_size hown6 hb7) hb8) hb9
  have hx9 := own_base hown9 (base' := w0.heap.size) b5.size
  have Hx9 : Hid (∃ ys, w9.ownsRow w0.heap.size 47 2 (.slice A6 r.length c6) r.length ys) := Lib.hid ⟨_, hx9⟩
  have hrl : r.length ≤ maxLen := Nat.le_trans hk6 hm6
  have Hrl := Lib.hid hrl
  unfold maxLen at hrl
  clear hown0 hg0 hat0 hown1 hown2 hown6 hown7 hown9 hx9
  go_wp2_with fail
  generalize r.length = q at *
  go_loopw [16] (fun i wr => ∃ k : Nat, k ≤ q ∧ i = .int .i64 k ∧ (∃ ys, wr.ownsRow w0.heap.size 47 2 (.slice A6 q c6) q ys) ∧ Below w0.heap.size w0 wr) (fun i _ => q - (intOf i).toNat)
  case atStart => exact ⟨0, by omega, rfl, Hx9.out, b9⟩
  case round =>
    obtain ⟨k, hk, rfl, ⟨ys, hown⟩, hb⟩ := hrel
    by_cases hlt : k < q
    · obtain ⟨g, rfl, hgb⟩ := own_some hown (by omega)
      obtain ⟨u1, hu1⟩ : ∃ u, ys[k * 2]? = some u := ⟨_, List.getElem?_eq_getElem (by rw [hown.1]; omega)⟩
      obtain ⟨u2, hu2⟩ : ∃ u, ys[k * 2 + 1]? = some u := ⟨_, List.getElem?_eq_getElem (by rw [hown.1]; omega)⟩
      have c1 := (hown.cellAt (k * 2) (by omega)).trans hu1
      have c2 := (hown.cellAt (k * 2 + 1) (by omega)).trans hu2
      have f1 := hown.frozenAt (k * 2)
      have f2 := hown.frozenAt (k * 2 + 1)
      have hs := (((hown.stored (k * 2) (.int .i64 (-7))).1).stored (k * 2 + 1) (.int .i64 0)).1
      have Hs := Lib.hid hs
      clear hu1 hu2 hown hs
      go_wp2_with fail
      go_roundw
      case rel => exact ⟨k + 1, by omega, by go_num, ⟨_, Hs.out⟩, (hb.setCell (p := ⟨g, k * 2, none⟩) hgb _).setCell (p := ⟨g, k * 2 + 1, none⟩) hgb _⟩
      case measure => simp [intOf]; omega
    · go_wp2_with fail
      refine (HS.out _ A0 A c0 c (H0.out _ hb) (HA.out _ (hb0.trans (hb.mono hb0.size)))).mono ?_
      rintro e w10 ⟨rfl, hb10⟩
      go_wp2
      go_ret
      exact ⟨rfl, (hb0.trans (hb.mono hb0.size)).trans (hb10.mono (hb0.trans (hb.mono hb0.size)).size)⟩
/-! ### a list of gaps that came in -/
theorem cells47 : Try.prog.cellsOf 47 = 2 := by kernel_rfl
theorem cells3 : Try.prog.cellsOf 3 = 1 := by kernel_rfl
theorem bytes47 : Try.prog.bytesOf 47 = 16 := by kernel_rfl
theorem open_gaps {H : Type} {enc : TypeId × Value → H} {W : World} {base fuel : Nat} {v : Value} {x : DataW H × List MemPlace} (h : DataW.trod enc Try.prog W base (fun _ => true) true fuel 39 v.cells.toList = some x) (hs : ∃ A n c, v = .slice A n c) :
    ∃ (A : Option Addr) (n c : Nat) (l : List Gap), v = .slice A n c ∧ l.length = n ∧ n ≤ c ∧ c ≤ maxLen ∧ Rd W W.heap.size A (cells l) ∧ (x.1 = .nil ∧ n = 0 ∨ ∃ es sp, x.1 = .slice es sp ∧ es.length + sp.length = c) := by
  obtain ⟨A, n, c, rfl⟩ := hs
  rcases Deep.open_slice Try.underlying39 h with ⟨hcs, rfl⟩ | ⟨a, len, cap, m, k, D, Pl, hcs, hb, hl, hm, hmm, rfl, hi⟩
  · simp [Value.cells] at hcs
    obtain ⟨rfl, rfl, rfl⟩ := hcs
    exact ⟨none, 0, 0, [], rfl, rfl, Nat.le_refl _, by simp [maxLen], Rd.nil, .inl ⟨rfl, rfl⟩⟩
  · simp [Value.cells] at hcs
    obtain ⟨rfl, rfl, rfl⟩ := hcs
    simp only [if_true] at hmm
    subst hmm
    have hg : ∀ i, i < n → ∃ g : Gap, W.cell? (a.add (i * 2)) = some (.int .i64 g.1) ∧ W.cell? (a.add (i * 2 + 1)) = some (.int .i64 g.2) := by
      intro i hin
      obtain ⟨cs', hc', ht'⟩ := hi i (by omega)
      rw [cells47] at hc'
      obtain ⟨y0, y1, k', _, hlen, h0, h1⟩ := trod_struct2 Try.underlying47 ht'
      rw [cells47] at hlen
      obtain ⟨_, _, hat⟩ := World.cells?_some hc'
      match cs', hlen with
      | [u0, u1], _ =>
        simp [cells3] at h0 h1
        obtain ⟨g0, e0, _, _⟩ := DataW.trod_int Try.underlying3 h0
        obtain ⟨g1, e1, _, _⟩ := DataW.trod_int Try.underlying3 h1
        simp at e0 e1
        subst e0 e1
        have c0 := hat 0 (by omega)
        have c1 := hat 1 (by omega)
        rw [M.add_add] at c0 c1
        exact ⟨(g0, g1), by simpa using c0, by simpa using c1⟩
    obtain ⟨f, hf⟩ := Deep.choose_lt (α := Gap) (n := n) (p := fun i g => W.cell? (a.add (i * 2)) = some (.int .i64 g.1) ∧ W.cell? (a.add (i * 2 + 1)) = some (.int .i64 g.2)) hg
    refine ⟨some a, n, m, (List.range n).map f, rfl, by simp, hl, hm, ?_, .inr ⟨_, _, rfl, by simp; omega⟩⟩
    intro hne
    have hn0 : 0 < n := by
      rcases Nat.eq_zero_or_pos n with h | h
      · subst h; simp [cells] at hne
      · exact h
    refine ⟨a, rfl, ?_, ?_⟩
    · have := World.block_lt_of_cell? W _ (hf 0 hn0).1
      rwa [M.block_add] at this
    · intro j u hu
      have hj : j < n * 2 := by
        have h1 := cells_length ((List.range n).map f)
        rcases Nat.lt_or_ge j (n * 2) with h | h
        · exact h
        · rw [List.getElem?_eq_none (by rw [h1]; simpa using h)] at hu; cases hu
      have hk : ((List.range n).map f)[j / 2]? = some (f (j / 2)) := by
        rw [List.getElem?_map, List.getElem?_range (by omega)]; rfl
      obtain ⟨g0, g1⟩ := cells_get _ _ _ hk
      obtain ⟨q0, q1⟩ := hf (j / 2) (by omega)
      rcases Nat.mod_two_eq_zero_or_one j with h | h
      · have e : j = j / 2 * 2 := by omega
        rw [e] at hu ⊢
        rw [g0] at hu
        injection hu with hu
        rw [← hu]; exact q0
      · have e : j = j / 2 * 2 + 1 := by omega
        rw [e] at hu ⊢
        rw [g1] at hu
        injection hu with hu
        rw [← hu]; exact q1
theorem own : ownKnob Try.prog.godebug = none := by kernel_rfl
theorem laidOut : laidOutB Try.prog = true := by kernel_rfl
end Go.Proofs.Ytinjfmcmjhehoaa.gaps
