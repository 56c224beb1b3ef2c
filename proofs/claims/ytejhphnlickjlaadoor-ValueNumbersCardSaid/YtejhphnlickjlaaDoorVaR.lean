/-
  Contracts of the copy of bytes, and of Unpack of package value. Conditions: bytes lie in their bounds; lists stand in memory.
-/
import Derived.Test.YtejhphnlickjlaaDoorVaL
import Derived.Test.YtejhphnlickjlaaDoorVaF
import Derived.Laws.CopyOwn
import Derived.Deep.OwnRows
namespace Go.Proofs.YtejhphnlickjlaaDoor.ty
open Go.ChangeShapes Go.WideShapes Go.RowKit
open M T W
set_option linter.unusedVariables false
theorem info5 : (Tryd.prog.info? 5).map (fun i => (i.zero, i.size, i.bytes)) = some (some (.int .u8 0), 1, 1) := by kernel_rfl
/-- the append law, its answer written out as a slice -/
theorem wpList_append_rs {P : Program} (w : World) {ops : Array Oper} {rest : List Oper} {o : Oper} {a : Act} {Q : Exit → Act → World → Prop} (hgd : o.guard = none) (s x : Operand) (t : TypeId)
    (ho : o.op = .call { callee := .builtin .append, args := #[s, x], argTypes := #[t, t] })
    (base : Nat) (e : TypeId) (i : TypeInfo) (z : Value) (size bytes : Nat) (ht : P.underlying t = some (.slice e)) (hi : P.info? e = some i) (hz : i.zero = some z)
    (hsize : i.size = size) (hby : i.bytes = bytes) (hzs : z.cells.size = size) (hsz : 0 < size)
    (v : Value) (n : Nat) (xs : List Value) (hs : a.eval s = v) (hown : w.ownsRow base e size v n xs)
    (B : Nat) (A : Option Addr) (m c : Nat) (news : List Value) (hx : a.eval x = .slice A m c) (hl : news.length = m * size) (hr : Rd w B A news) (h1 : ∀ u ∈ news, u.oneCell' = true)
    (h63 : n + m ≤ maxLen) (hbytes : (n + m) * bytes ≤ 140737488355328) (hbase : base ≤ w.heap.size)
    (h : ∀ A' c' w', n + m ≤ c' → c' ≤ maxLen → w'.ownsRow base e size (.slice A' (n + m) c') (n + m) (xs ++ news) → w.grownBy w' v.ownBlock →
      (Value.ownBlock (.slice A' (n + m) c') = v.ownBlock ∨ Value.ownBlock (.slice A' (n + m) c') = some w.heap.size) → wpList P ops Q rest (a.put o.dst (.slice A' (n + m) c')) w') : wpList P ops Q (o :: rest) a w :=
  wpList_append_rd w hgd s x t ho base e i z size bytes ht hi hz hsize hby hzs hsz v n xs hs hown B A m c news hx hl hr h1 h63 hbytes hbase fun v' w' h2 h3 h4 => by
    obtain ⟨A', c', rfl, g1, g2⟩ := own_form h2
    exact h A' c' w' g1 g2 h2 h3 h4
theorem lit_block {B n c g : Nat} (h : Value.ownBlock (.slice (some ⟨B, 0, none⟩) n c) = some g) : B = g := by simpa [Value.ownBlock] using h
theorem own_empty_b (w : World) (B : Nat) (hB : B ≤ w.heap.size) : (w.alloc (.cells #[] 5)).ownsRow B 5 1 (.slice (some ⟨w.heap.size, 0, none⟩) 0 0) 0 [] :=
  own_base (World.ownsRow_lit (size := 1) (e := 5) w #[] 0 (Nat.le_refl _) (by simp [maxLen]) rfl) hB
theorem cbytes_any (A : Option Addr) (n c : Nat) (l : List Int) (w : World) (hl : l.length = n) (hn : n ≤ 140737488355328) (hA : Rd w w.heap.size A (bs l)) :
    Calls Tryd.prog 14 #[.slice A n c] w fun e w' => ∃ A' c', e = .returned (.slice A' n c') ∧ n ≤ c' ∧ c' ≤ maxLen ∧ w'.ownsRow w.heap.size 5 1 (.slice A' n c') n (bs l) ∧ Below w.heap.size w w' := by
  obtain ⟨i1, hj, hy0, hy1, hy2⟩ := info_parts info5
  have HA := Lib.hid hA
  have Hl := Lib.hid hl
  clear hA hl
  go_enter Tryd.func14, Tryd.ntmps14
  go_wp2_with (at_builtin; refine wpList_append_rs _ rfl (.tmp 3) (.tmp 4) 25 rfl w.heap.size 5 i1 _ 1 1 Tryd.underlying25 hj hy0 hy1 hy2 rfl (by omega) (.slice (some ⟨w.heap.size, 0, none⟩) 0 0) 0 [] rfl (own_empty_b w _ (Nat.le_refl _)) _ A n c (bs l) rfl (by rw [bs_length, Hl.out]; omega) (HA.out.alloc (Nat.le_refl _) _) (bs_one _) (by simp only [maxLen]; omega) (by omega) (by simp) ?_; intro A0 c0 w0 hq0 hm0 hown0 hg0 hat0; simp only [Nat.zero_add, List.nil_append] at hown0 hq0)
  go_ret
  exact ⟨A0, c0, rfl, hq0, hm0, hown0, ((Below.refl _ _).alloc (Nat.le_refl _) _).grown hg0 (by simp) (fun g hg => by have := lit_block hg; omega)⟩
/-- the number of bytes, the lowest first -/
def numL : List Int → Int
  | [] => 0
  | x :: r => x + 256 * numL r
/-- what Unpack answers -/
def unpackV (l b : List Int) : Value := if bitsT l = 0 then .tuple #[vT 0 0 0, .int .i64 5] else if b.length ≠ bitsT l / 8 then .tuple #[vT 0 0 0, .int .i64 3] else .tuple #[vT 1 (wrapT l (numL b)) 0, .int .i64 0]
/-- four bytes, padded -/
def pad4 (b : List Int) : List Int := b ++ List.replicate (4 - b.length) 0
theorem pad4_from (b : List Int) (h : b.length = 1 ∨ b.length = 2 ∨ b.length = 4) : fromR (pad4 b) = (numL b, 0) := by
  match b, h with
  | [x], _ => simp [pad4, fromR, numL]
  | [x, y], _ => simp [pad4, fromR, numL, List.replicate]; omega
  | [x, y, z, u], _ => simp [pad4, fromR, numL]; omega
  | [], h => simp at h
  | [_, _, _], h => simp at h
  | _ :: _ :: _ :: _ :: _ :: _, h => simp at h
theorem numL_bd : ∀ (b : List Int), (∀ x ∈ b, 0 ≤ x ∧ x ≤ 255) → b.length ≤ 4 → 0 ≤ numL b ∧ numL b < 4294967296 := by
  intro b hb hl
  match b, hb, hl with
  | [], _, _ => simp [numL]
  | [x], hb, _ => have := hb x (by simp); simp [numL]; omega
  | [x, y], hb, _ => have := hb x (by simp); have := hb y (by simp); simp [numL]; omega
  | [x, y, z], hb, _ => have := hb x (by simp); have := hb y (by simp); have := hb z (by simp); simp [numL]; omega
  | [x, y, z, u], hb, _ => have := hb x (by simp); have := hb y (by simp); have := hb z (by simp); have := hb u (by simp); simp [numL]; omega
  | _ :: _ :: _ :: _ :: _ :: _, _, hl => simp at hl
theorem pad4_splice (b : List Int) (h : b.length ≤ 4) : splice [.int .u8 0, .int .u8 0, .int .u8 0, .int .u8 0] 0 (bs b) = bs (pad4 b) := by
  match b, h with
  | [], _ => rfl
  | [x], _ => rfl
  | [x, y], _ => rfl
  | [x, y, z], _ => rfl
  | [x, y, z, u], _ => rfl
  | _ :: _ :: _ :: _ :: _ :: _, h => simp at h
theorem pad4_bd (b : List Int) (hb : ∀ x ∈ b, 0 ≤ x ∧ x ≤ 255) : ∀ x ∈ pad4 b, 0 ≤ x ∧ x ≤ 255 := by
  intro x hx
  rcases List.mem_append.1 hx with h | h
  · exact hb x h
  · rw [List.mem_replicate] at h; omega
theorem pad4_len (b : List Int) (h : b.length ≤ 4) : (pad4 b).length = 4 := by simp [pad4]; omega
/-- the result's own variable, laid ahead of the bytes -/
theorem rd_of_heap {w : World} {g : Nat} {cs : List Value} {t : TypeId} (h : w.heap[g]? = some (.cells cs.toArray t (0, 0))) : Rd w w.heap.size (some ⟨g, 0, none⟩) cs := fun _ =>
  ⟨_, rfl, (Array.getElem?_eq_some_iff.1 h).1, fun j u hu => by
    rw [show (⟨g, 0, none⟩ : Addr).add j = ⟨g, j, none⟩ from by unfold Addr.add; split <;> simp_all, cell_of_row _ _ _ _ _ _ h]
    simpa using hu⟩
theorem made4 : madeCells #[.int .u8 0] 4 = #[.int .u8 0, .int .u8 0, .int .u8 0, .int .u8 0] := by kernel_rfl
theorem mk4 (W : World) : (Instr.makeSlice 25 (.int .i64 4) (.int .i64 4)).run Tryd.prog W = .ok (.slice (some ⟨W.heap.size, 0, none⟩) 4 4) (W.alloc (.cells #[.int .u8 0, .int .u8 0, .int .u8 0, .int .u8 0] 5)) := by
  have := run_make_row' (P := Tryd.prog) 25 5 (.int .u8 0) 1 Tryd.underlying25 info5 rfl .i64 .i64 4 (by omega) (by omega) W
  rw [made4] at this
  exact this
set_option maxRecDepth 20000 in
set_option maxHeartbeats 1600000 in
theorem Unpack_any (s : ByteArray) (A : Option Addr) (n c : Nat) (l : List Int) (w : World) (hl : l.length = n) (hn : n ≤ maxLen) (hA : Rd w w.heap.size A (bs l)) (hb : ∀ x ∈ l, 0 ≤ x ∧ x ≤ 255) :
    Calls Tryd.prog 15 #[.string s, .slice A n c] w fun e w' => e = .returned (unpackV (T.nums s) l) ∧ Below w.heap.size w w' := by
  unfold unpackV vT
  have HB := Lib.hid (bits45_any s)
  by_cases h0 : bitsT (T.nums s) = 0
  · rw [if_pos h0]
    rw [h0] at HB
    clear h0 hA hb hl
    go_enter Tryd.func15, Tryd.ntmps15
    go_wp2_with (go_at_call 45; refine (HB.out _).mono ?_; rintro e w2 ⟨rfl, rfl⟩)
    try simp only [Exit.inBlock, Exit.then]
    refine bodyPost_ret (v := .tuple #[.agg #[.int .i64 0, .int .i64 0, .int .i64 0], .int .i64 5]) (by rw [results_cell_tmp rfl]; go_simp) rfl ?_
    exact ⟨rfl, (Below.refl _ _).alloc (Nat.le_refl _) _⟩
  · rw [if_neg h0]
    have hm : ((bitsT (T.nums s) : Int) == 0) = false := by rw [beq_eq_false_iff_ne]; omega
    have hq : ∃ q : Nat, bitsT (T.nums s) / 8 = q ∧ (q = 1 ∨ q = 2 ∨ q = 4) ∧ ((bitsT (T.nums s) : Nat) : Int).tdiv 8 = q := by
      rcases bits_cases (T.nums s) with h | h | h | h
      · exact absurd h h0
      · exact ⟨1, by rw [h], by omega, by rw [h]; rfl⟩
      · exact ⟨2, by rw [h], by omega, by rw [h]; rfl⟩
      · exact ⟨4, by rw [h], by omega, by rw [h]; rfl⟩
    obtain ⟨q, hq1, hq2, hq3⟩ := hq
    have hwq : wrap64 (q : Int) = q := by rcases hq2 with rfl | rfl | rfl <;> kernel_rfl
    rw [hq1]
    by_cases hlen : l.length = q
    · rw [if_neg (by omega)]
      have HI := Lib.hid (Int_any s (numL l))
      unfold intV vT at HI
      rw [if_neg h0] at HI
      have hl4 : l.length ≤ 4 := by omega
      have hl3 : l.length = 1 ∨ l.length = 2 ∨ l.length = 4 := by omega
      obtain ⟨N0, N1⟩ := numL_bd l hb hl4
      have HF : Hid (∀ W, Rd W W.heap.size (some ⟨w.heap.size + 1, 0, none⟩) (bs (pad4 l)) → Calls Tryd.prog 50 #[.slice (some ⟨w.heap.size + 1, 0, none⟩) 4 4] W fun e w' => e = .returned (.tuple #[.int .u32 (numL l), .int .i64 0]) ∧ Below W.heap.size W w') :=
        Lib.hid fun W hW => by
          have := from_any _ 4 4 (pad4 l) W (pad4_len l hl4) (by simp [maxLen]) hW (pad4_bd l hb)
          rw [pad4_from l hl3] at this
          exact this
      have HO := Lib.hid (Own.new w)
      have Hnew : Hid (((w.alloc (.cells #[.int .i64 0, .int .i64 0, .int .i64 0] 24)).alloc (.cells #[.int .u8 0, .int .u8 0, .int .u8 0, .int .u8 0] 5)).heap[w.heap.size + 1]? = some (.cells [.int .u8 0, .int .u8 0, .int .u8 0, .int .u8 0].toArray 5 (0, 0))) :=
        Lib.hid (by have := heap_alloc_new (w.alloc (.cells #[.int .i64 0, .int .i64 0, .int .i64 0] 24)) (.cells #[.int .u8 0, .int .u8 0, .int .u8 0, .int .u8 0] 5); simpa using this)
      have Hlen : Hid ((bs l).length = Nat.min n 4) := Lib.hid (by rw [bs_length, hl]; simp only [Nat.min_def]; split <;> omega)
      have Hl4 : Hid ((bs l).length ≤ 4) := Lib.hid (by rw [bs_length]; exact hl4)
      have HA := Lib.hid hA
      have Hpos : Hid (0 < (bs l).length → ∃ ad, A = some ad ∧ ∀ j v, (bs l)[j]? = some v → ((w.alloc (.cells #[.int .i64 0, .int .i64 0, .int .i64 0] 24)).alloc (.cells #[.int .u8 0, .int .u8 0, .int .u8 0, .int .u8 0] 5)).cell? (ad.add j) = some v) := Lib.hid fun h => by
        obtain ⟨ad, h1, -, h3⟩ := ((hA.alloc (Nat.le_refl _) (.cells #[.int .i64 0, .int .i64 0, .int .i64 0] 24)).alloc (by simp) (.cells #[.int .u8 0, .int .u8 0, .int .u8 0, .int .u8 0] 5)) (by intro h0; rw [h0] at h; simp at h)
        exact ⟨ad, h1, h3⟩
      have Hsp : Hid (splice [.int .u8 0, .int .u8 0, .int .u8 0, .int .u8 0] 0 (bs l) = bs (pad4 l)) := Lib.hid (pad4_splice l hl4)
      have hne : ((n : Int) != q) = false := by simp only [bne_eq_false_iff_eq]; omega
      have Hone := Lib.hid (bs_one l)
      clear hA hb hl hlen hq1 h0 hl3 hl4 hq2
      generalize bitsT (T.nums s) = m at *
      generalize wrapT (T.nums s) (numL l) = X at *
      generalize numL l = N at *
      generalize bs (pad4 l) = P4 at *
      generalize bs l = bl at *
      have hmk := mk4
      go_enter Tryd.func15, Tryd.ntmps15
      go_wp2_with (first
        | (go_at_call 45; refine (HB.out _).mono ?_; rintro e w2 ⟨rfl, rfl⟩)
        | ((with_reducible change wpList _ _ _ ({ dst := _, op := .call { callee := .builtin .copy, args := _, argTypes := _ }, type := _, pos := _, after := _, guard := _ } :: _) _ _); (refine wpList_copy_splice rfl (.tmp 21) (.tmp 22) 25 25 rfl 5 Tryd.underlying25 (by kernel_rfl) _ _ _ _ _ _ rfl rfl (w.heap.size + 1) 0 _ 5 Hnew.out bl Hlen.out (fun h => ⟨rfl, Hpos.out h⟩) (by have := Hl4.out; simpa using this) Hone.out (w.heap.size + 1) (w.alloc (.cells #[.int .i64 0, .int .i64 0, .int .i64 0] 24)) ((Below.refl _ _).alloc (by simp) _) (by simp) ?_); intro w3 hg3 hb3; have O3 := Lib.hid (HO.out.below (hb3.mono (by simp))); have R3 := Lib.hid (rd_of_heap (Hsp.out ▸ hg3.out)); clear hg3 hb3)
        | (go_at_call 50; refine (HF.out _ R3.out).mono ?_; rintro e w4 ⟨rfl, hb4⟩; have O4 := Lib.hid (O3.out.below hb4); clear hb4)
        | (go_at_call 10; refine (HI.out _).mono ?_; rintro e w5 ⟨rfl, hb5⟩; have h5 := O4.out.below hb5; have H5 := Lib.hid h5; obtain ⟨c0, c1, c2, f0, f1, f2⟩ := h5.cells; clear h5 hb5))
      try simp only [Exit.inBlock, Exit.then]
      refine bodyPost_ret (v := .tuple #[.agg #[.int .i64 1, .int .i64 X, .int .i64 0], .int .i64 0]) (by rw [results_cell_tmp rfl]; go_simp) rfl ?_
      exact ⟨rfl, ((H5.out.1.setCell (Nat.le_refl _) _).setCell (Nat.le_refl _) _).setCell (Nat.le_refl _) _⟩
    · rw [if_pos hlen]
      have hne : ((n : Int) != q) = true := by simp only [bne_iff_ne, ne_eq]; omega
      clear hA hb hl hlen hq1 h0
      generalize bitsT (T.nums s) = m at *
      go_enter Tryd.func15, Tryd.ntmps15
      go_wp2_with (go_at_call 45; refine (HB.out _).mono ?_; rintro e w2 ⟨rfl, rfl⟩)
      try simp only [Exit.inBlock, Exit.then]
      refine bodyPost_ret (v := .tuple #[.agg #[.int .i64 0, .int .i64 0, .int .i64 0], .int .i64 3]) (by rw [results_cell_tmp rfl]; go_simp) rfl ?_
      exact ⟨rfl, (Below.refl _ _).alloc (Nat.le_refl _) _⟩
end Go.Proofs.YtejhphnlickjlaaDoor.ty
