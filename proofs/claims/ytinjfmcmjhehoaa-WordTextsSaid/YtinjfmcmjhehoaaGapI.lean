/-
  Contract of joined (reference), and what the reference has joined behind k rounds. No condition but ranges.
-/
import Derived.Test.YtinjfmcmjhehoaaGapH
namespace Go.Proofs.Ytinjfmcmjhehoaa.gaps
open Go.ChangeShapes Go.WideShapes Go.ChangeAt Go.RowKit
open M G
set_option linter.unusedVariables false
def Bd (x : Gap) : Prop := 0 ≤ x.1 ∧ 0 ≤ x.2 ∧ x.1 + x.2 ≤ 33554432
theorem joined_bd {l : List Gap} {g : Gap} (h : ∀ x ∈ l, Bd x) (hg : Bd g) : ∀ x ∈ joined l g, Bd x := by
  rcases List.eq_nil_or_concat l with rfl | ⟨a, y, rfl⟩
  · intro x hx
    have : x = g := by simpa [joined] using hx
    rw [this]; exact hg
  · rw [List.concat_eq_append] at h ⊢
    rw [joined_snoc]
    have hy : Bd y := h y (by simp)
    unfold Bd at *
    split
    · intro x hx
      rcases List.mem_append.1 hx with hx | hx
      · exact h x (by simp [hx])
      · have : x = (y.1, y.2 + g.2) := by simpa using hx
        rw [this]
        simp only
        omega
    · intro x hx
      rcases List.mem_append.1 hx with hx | hx
      · exact h x (by simp [hx])
      · have : x = y ∨ x = g := by simpa using hx
        rcases this with rfl | rfl
        · exact hy
        · exact hg
theorem rd_new2 (w : World) (o : Obj) (x y : Int) (q : Nat) : Rd (((w.alloc o).drewN q).alloc (.cells #[.int .i64 x, .int .i64 y] 47)) (w.heap.size + 2) (some ⟨w.heap.size + 1, 0, none⟩) (cells [(x, y)]) := by
  have h := rd_new ((w.alloc o).drewN q) x y
  simpa using h
set_option maxRecDepth 100000 in
set_option maxHeartbeats 800000 in
theorem rjoined_any (B : Nat) (A : Option Addr) (m c : Nat) (l : List Gap) (f s : Int) (w : World) (hm : l.length = m) (hm2 : m ≤ 8192) (hB : B ≤ w.heap.size) (hc : m ≤ c) (hcm : c ≤ maxLen)
    (hown : w.ownsRow B 47 2 (.slice A m c) m (cells l)) (hb : ∀ x ∈ l, Bd x) (hg : Bd (f, s)) :
    Calls Try.prog 66 #[.slice A m c, .agg #[.int .i64 f, .int .i64 s]] w fun e w' => ∃ A' c', e = .returned (.slice A' (joined l (f, s)).length c') ∧ (joined l (f, s)).length ≤ c' ∧ c' ≤ maxLen ∧
      w'.ownsRow B 47 2 (.slice A' (joined l (f, s)).length c') (joined l (f, s)).length (cells (joined l (f, s))) ∧ Below B w w' := by
  obtain ⟨i0, hi, hz0, hz1, hz2⟩ := info_parts info47
  unfold Bd at hg
  obtain ⟨f0, s0, fs⟩ := hg
  simp only at f0 s0 fs
  have hlt := hown.lt
  have HO : Hid ((w.alloc (.cells #[.int .i64 f, .int .i64 s] 47)).ownsRow B 47 2 (.slice A m c) m (cells l)) := Lib.hid (hown.alloc _)
  have Bw : Hid (Below B w (w.alloc (.cells #[.int .i64 f, .int .i64 s] 47))) := Lib.hid ((Below.refl _ _).alloc hB _)
  rcases Nat.eq_zero_or_pos m with h | h
  · subst h
    have hl0 : l = [] := List.eq_nil_of_length_eq_zero hm
    subst hl0
    rw [show joined [] (f, s) = [(f, s)] from rfl]
    clear hown hb hm
    go_enter Try.func66, Try.ntmps66
    go_wp2_with fail
    go_quiet (fail)
    have H2 : Hid (∀ q, ((w.alloc (.cells #[.int .i64 f, .int .i64 s] 47)).drewN q).ownsRow B 47 2 (.slice A 0 c) 0 (cells [])) := Lib.hid (fun _ => HO.out)
    go_wp2_with (at_builtin; refine wpList_append_rs _ rfl (.tmp 38) (.tmp 40) 39 rfl B 47 i0 _ 2 16 Try.underlying39 hi hz0 hz1 hz2 rfl (by omega) (.slice A 0 c) 0 (cells []) rfl (World.ownsRow.alloc (w := (w.alloc (.cells #[.int .i64 f, .int .i64 s] 47)).drewN nq) (H2.out _) _) _ (some ⟨w.heap.size + 1, 0, none⟩) 1 1 (cells [(f, s)]) rfl rfl (by exact rd_new2 w _ _ _ nq) (cells_one _) (by simp only [maxLen]; omega) (by omega) (by simp; omega) ?_; intro A3 c3 w3 hk3 hm3 hown3 hg3 hat3)
    go_ret
    exact ⟨A3, c3, rfl, hk3, hm3, hown3, ((below_drewN Bw.out _).alloc (by simp; omega) _).grown hg3 (by simp; omega) (fun g hg => (hlt g hg).1)⟩
  · obtain ⟨j, rfl⟩ : ∃ j, m = j + 1 := ⟨m - 1, by omega⟩
    obtain ⟨gb, rfl, hgb⟩ := own_some hown (by omega)
    have hjl : j < l.length := by omega
    obtain ⟨y1, y2, hy⟩ : ∃ y1 y2, l[j]? = some (y1, y2) := ⟨_, _, List.getElem?_eq_getElem hjl⟩
    obtain ⟨q1, q2⟩ := cells_get _ _ _ hy
    have hgl := (hlt gb rfl).2
    have e1 := ca ((hown.cellAt (j * 2) (by omega)).trans q1) (.cells #[.int .i64 f, .int .i64 s] 47)
    have e2 := ca ((hown.cellAt (j * 2 + 1) (by omega)).trans q2) (.cells #[.int .i64 f, .int .i64 s] 47)
    have fr : (w.alloc (.cells #[.int .i64 f, .int .i64 s] 47)).frozen? ⟨gb, j * 2 + 1, none⟩ = false := ((Below.refl w.heap.size w).alloc (Nat.le_refl _) _ |>.frozen (p := ⟨gb, j * 2 + 1, none⟩) hgl).trans (hown.frozenAt (j * 2 + 1))
    simp only at e1 e2
    have hlj : l = l.take j ++ [(y1, y2)] := by
      have h1 : l.take (j + 1) = l := List.take_of_length_le (by omega)
      exact h1.symm.trans (by rw [List.take_add_one, hy]; rfl)
    have htl : (l.take j).length = j := by rw [List.length_take]; omega
    have hyb := hb (y1, y2) (List.mem_of_getElem? hy)
    unfold Bd at hyb
    obtain ⟨yb1, yb2, yb3⟩ := hyb
    simp only at yb1 yb2 yb3
    have j0 : (0 : Int) ≤ j := by omega
    have j1 : (j : Int) < (j : Int) + 1 := by omega
    have j2 : wrap64 (y1 + y2) = y1 + y2 := IntWalk.wrap64_in _ (by omega)
    by_cases ht : y1 + y2 = f
    · have hbt : (y1 + y2 == f) = true := by simp [ht]
      have HJ : Hid (joined l (f, s) = l.take j ++ [(y1, y2 + s)]) := Lib.hid (by rw [hlj, joined_snoc, if_pos ht, ← hlj])
      have HJl : Hid ((joined l (f, s)).length = j + 1) := Lib.hid (by rw [HJ.out, List.length_append, htl]; rfl)
      have HX : Hid (∀ W : World, W.ownsRow B 47 2 (.slice (some ⟨gb, 0, none⟩) (j + 1) c) (j + 1) (cells l) → (W.setCell ⟨gb, j * 2 + 1, none⟩ (.int .i64 (y2 + s))).ownsRow B 47 2 (.slice (some ⟨gb, 0, none⟩) (j + 1) c) (j + 1) (cells (joined l (f, s)))) := Lib.hid (fun W h => by
        have h3 := (h.stored (j * 2 + 1) (.int .i64 (y2 + s))).1
        rw [hlj, cells_set _ _ _ _ _ htl] at h3
        rw [HJ.out]
        exact h3)
      have k3 : IntKind.i64.wrap (y2 + s) = y2 + s := by rw [IntKind.wrap_i64]; omega
      generalize joined l (f, s) = J at *
      clear ht hlj htl hy hb hown q1 q2 hm hjl HJ
      go_enter Try.func66, Try.ntmps66
      go_wp2_with fail
      go_quiet (fail)
      go_wp2_with fail
      go_region
      go_wp2_with fail
      go_ret
      rw [HJl.out]
      exact ⟨_, c, rfl, hc, hcm, by exact HX.out _ HO.out, Below.setCell (by exact (below_drewN Bw.out nq).drew) (p := ⟨gb, j * 2 + 1, none⟩) hgb _⟩
    · have hbt : (y1 + y2 == f) = false := by simp [ht]
      have HJ : Hid (joined l (f, s) = l ++ [(f, s)]) := Lib.hid (by
        rw [hlj, joined_snoc, if_neg ht]
        simp)
      have HJl : Hid ((joined l (f, s)).length = j + 1 + 1) := Lib.hid (by rw [HJ.out, List.length_append, hm]; rfl)
      have H2 : Hid (∀ q, ((w.alloc (.cells #[.int .i64 f, .int .i64 s] 47)).drewN q).ownsRow B 47 2 (.slice (some ⟨gb, 0, none⟩) (j + 1) c) (j + 1) (cells l)) := Lib.hid (fun _ => HO.out)
      generalize joined l (f, s) = J at *
      clear ht hlj htl hy hb hown q1 q2 hm hjl
      go_enter Try.func66, Try.ntmps66
      go_wp2_with fail
      go_quiet (fail)
      go_wp2_with (at_builtin; refine wpList_append_rs _ rfl (.tmp 38) (.tmp 40) 39 rfl B 47 i0 _ 2 16 Try.underlying39 hi hz0 hz1 hz2 rfl (by omega) (.slice (some ⟨gb, 0, none⟩) (j + 1) c) (j + 1) (cells l) rfl (World.ownsRow.alloc (w := (w.alloc (.cells #[.int .i64 f, .int .i64 s] 47)).drewN nq) (H2.out _) _) _ (some ⟨w.heap.size + 1, 0, none⟩) 1 1 (cells [(f, s)]) rfl rfl (by exact rd_new2 w _ _ _ nq) (cells_one _) (by simp only [maxLen]; omega) (by omega) (by simp; omega) ?_; intro A3 c3 w3 hk3 hm3 hown3 hg3 hat3)
      go_ret
      rw [HJl.out, HJ.out, cells_append]
      exact ⟨A3, c3, rfl, hk3, hm3, hown3, ((below_drewN Bw.out _).alloc (by simp; omega) _).grown hg3 (by simp; omega) (fun g hg => (hlt g hg).1)⟩
/-! ### what the reference has joined behind k rounds -/
def accF (l : List Gap) (g : Gap) : Nat → List Gap
  | 0 => []
  | k + 1 => joined (if k = behind l g then joined (accF l g k) g else accF l g k) (l.getD k (0, 0))
theorem take_snoc (l : List Gap) (k : Nat) (hk : k < l.length) : l.take (k + 1) = l.take k ++ [l[k]] := by
  rw [List.take_add_one, List.getElem?_eq_getElem hk]; rfl
theorem getD_at (l : List Gap) (k : Nat) (hk : k < l.length) : l.getD k (0, 0) = l[k] := by simp [List.getD, hk]
theorem accF_lo (l : List Gap) (g : Gap) : ∀ k, k ≤ behind l g → k ≤ l.length → accF l g k = (l.take k).foldl joined []
  | 0, _, _ => rfl
  | k + 1, h, h2 => by
    have hk : k < l.length := by omega
    rw [accF, if_neg (by omega), accF_lo l g k (by omega) (by omega), take_snoc l k hk, List.foldl_append, getD_at l k hk]
    rfl
theorem accF_hi (l : List Gap) (g : Gap) : ∀ d, behind l g + (d + 1) ≤ l.length → accF l g (behind l g + (d + 1)) = ((l.drop (behind l g)).take (d + 1)).foldl joined (joined ((l.take (behind l g)).foldl joined []) g)
  | 0, h => by
    have hk : behind l g < l.length := by omega
    rw [show behind l g + (0 + 1) = behind l g + 1 from rfl, accF, if_pos rfl, accF_lo l g _ (Nat.le_refl _) (by omega), take_snoc (l.drop (behind l g)) 0 (by rw [List.length_drop]; omega), getD_at l _ hk, List.take_zero, List.nil_append, List.getElem_drop]
    rfl
  | d + 1, h => by
    have hk : behind l g + (d + 1) < l.length := by omega
    rw [show behind l g + (d + 1 + 1) = (behind l g + (d + 1)) + 1 from by omega, accF, if_neg (by omega), accF_hi l g d (by omega), take_snoc (l.drop (behind l g)) (d + 1) (by rw [List.length_drop]; omega), getD_at l _ hk, List.getElem_drop, List.foldl_append]
    rfl
theorem accF_folded (l : List Gap) (g : Gap) : (if behind l g < l.length then accF l g l.length else joined (accF l g l.length) g) = folded l g := by
  unfold folded
  have hle : behind l g ≤ l.length := List.findIdx_le_length
  simp only
  split
  · rename_i h
    obtain ⟨d, hd⟩ : ∃ d, l.length = behind l g + (d + 1) := ⟨l.length - behind l g - 1, by omega⟩
    have e : (l.drop (behind l g)).take (d + 1) = l.drop (behind l g) := List.take_of_length_le (by rw [List.length_drop]; omega)
    rw [hd, accF_hi l g d (by omega), e]
  · rename_i h
    rw [accF_lo l g _ (by omega) (Nat.le_refl _), List.take_of_length_le (Nat.le_refl _)]
theorem accF_bd {l : List Gap} {g : Gap} (h : ∀ x ∈ l, Bd x) (hg : Bd g) : ∀ k, k ≤ l.length → ∀ x ∈ accF l g k, Bd x
  | 0, _, x, hx => by cases hx
  | k + 1, hk, x, hx => by
    have hkl : k < l.length := by omega
    have ih := accF_bd h hg k (by omega)
    rw [accF] at hx
    have hd : Bd (l.getD k (0, 0)) := by
      have e : l.getD k (0, 0) = l[k] := by simp [List.getD, hkl]
      rw [e]
      exact h _ (List.getElem_mem hkl)
    refine joined_bd ?_ hd x hx
    split
    · exact joined_bd ih hg
    · exact ih
theorem accF_len (l : List Gap) (g : Gap) : ∀ k, (accF l g k).length ≤ 2 * k
  | 0 => Nat.le_refl _
  | k + 1 => by
    have ih := accF_len l g k
    rw [accF]
    refine Nat.le_trans (joined_len _ _) ?_
    split
    · have := joined_len (accF l g k) g; omega
    · omega
theorem behind_lo {l : List Gap} {g : Gap} {k : Nat} {x : Gap} (h : k < behind l g) (hx : l[k]? = some x) : x.1 ≤ g.1 := by
  have h1 := List.not_of_lt_findIdx h
  rw [(List.getElem?_eq_some_iff.1 hx).2] at h1
  simpa using h1
theorem behind_at {l : List Gap} {g : Gap} {x : Gap} (hx : l[behind l g]? = some x) : g.1 < x.1 := by
  have hk : behind l g < l.length := (List.getElem?_eq_some_iff.1 hx).1
  have h2 := List.findIdx_getElem (p := fun o : Gap => decide (g.1 < o.1)) (xs := l) (w := hk)
  have h3 : l[l.findIdx (fun o : Gap => decide (g.1 < o.1))]'hk = x := (List.getElem?_eq_some_iff.1 hx).2
  rw [h3] at h2
  simpa using h2
end Go.Proofs.Ytinjfmcmjhehoaa.gaps
