/- Plain laws of counts: together, and how many; '==' of two counts that are the same. -/
import Derived.Test.YtfebncpfhdgkpaaHistB
import Derived.Laws.StructEq
namespace Go.Proofs.Ytfebncpfhdgkpaa
open Go.RowKit Go.Sort

theorem joinH_cnt (a b : List Int) (ha : a.length ≤ 100000) (hb : b.length ≤ 100000) : joinH (cntH a) (cntH b) = cntH (a ++ b) := by
  apply List.ext_getElem?
  intro i
  unfold joinH
  rw [List.getElem?_zipWith]
  by_cases hi : i < 24
  · rw [cntH_get _ i hi, cntH_get _ i hi, cntH_get _ i hi, List.filter_append, List.length_append]
    have h1 := List.length_filter_le (fun n => bkt n == i) a
    have h2 := List.length_filter_le (fun n => bkt n == i) b
    simp only [Option.some.injEq]
    unfold add50 cut50
    omega
  · rw [List.getElem?_eq_none (by rw [cntH_len]; omega), List.getElem?_eq_none (l := cntH (a ++ b)) (by rw [cntH_len]; omega)]

theorem lenF_sum : ∀ (H : List Int) (a : Int), (∀ k ∈ H, 0 ≤ k) → 0 ≤ a → a + H.sum ≤ 1000000 → H.foldl addF a = a + H.sum ∧ 0 ≤ H.sum
  | [], a, _, _, _ => by simp
  | k :: H, a, hk, ha, hs => by
    have h0 := hk k (by simp)
    rw [List.sum_cons] at hs ⊢
    have hp : 0 ≤ H.sum := by
      have hall : ∀ (L : List Int), (∀ k ∈ L, 0 ≤ k) → 0 ≤ L.sum := by
        intro L
        induction L with
        | nil => intro _; simp
        | cons x L ih =>
          intro h
          have h1 := h x (by simp)
          have h2 := ih (fun k hk => h k (by simp [hk]))
          rw [List.sum_cons]; omega
      exact hall H (fun k hk' => hk k (by simp [hk']))
    have e : addF a k = a + k := by
      unfold addF add50 cut50
      omega
    obtain ⟨h1, h2⟩ := lenF_sum H (a + k) (fun k hk' => hk k (by simp [hk'])) (by omega) (by omega)
    rw [List.foldl_cons, e, h1]
    omega
theorem sum_set : ∀ (l : List Int) (k : Nat) (v : Int) (h : k < l.length), (l.set k v).sum = l.sum - l[k] + v
  | x :: l, 0, v, _ => by simp only [List.set_cons_zero, List.sum_cons, List.getElem_cons_zero]; omega
  | x :: l, k + 1, v, h => by
    have := sum_set l k v (by simpa using h)
    simp only [List.set_cons_succ, List.sum_cons, List.getElem_cons_succ]
    omega
theorem cntH_sum (L : List Int) : ∀ i, i ≤ L.length → (cntH (L.take i)).sum = i
  | 0, _ => by rw [List.take_zero, cntH_nil]; decide
  | i + 1, h => by
    have ih := cntH_sum L i (by omega)
    have hb : bkt (L[i]'(by omega)) < (cntH (L.take i)).length := by rw [cntH_len]; exact bkt_lt _
    rw [List.take_succ_eq_append_getElem (by omega), cntH_snoc _ _ hb, sum_set _ _ _ hb, ih]
    omega
theorem lenF_cnt (L : List Int) (h : L.length ≤ 1000000) : lenF (cntH L) = L.length := by
  have h1 := cntH_sum L L.length (Nat.le_refl _)
  rw [List.take_length] at h1
  have h2 := lenF_sum (cntH L) 0 (fun k hk => by
    obtain ⟨i, hi, rfl⟩ := List.getElem_of_mem hk
    exact (cntH_range L i hi).1) (by omega) (by omega)
  unfold lenF
  omega

theorem list24 (H : List Int) (hl : H.length = 24) : ∃ a0 a1 a2 a3 a4 a5 a6 a7 a8 a9 b0 b1 b2 b3 b4 b5 b6 b7 b8 b9 c0 c1 c2 c3, H = [a0, a1, a2, a3, a4, a5, a6, a7, a8, a9, b0, b1, b2, b3, b4, b5, b6, b7, b8, b9, c0, c1, c2, c3] := by
  match H, hl with
  | [a0, a1, a2, a3, a4, a5, a6, a7, a8, a9, b0, b1, b2, b3, b4, b5, b6, b7, b8, b9, c0, c1, c2, c3], _ => exact ⟨a0, a1, a2, a3, a4, a5, a6, a7, a8, a9, b0, b1, b2, b3, b4, b5, b6, b7, b8, b9, c0, c1, c2, c3, rfl⟩
set_option maxRecDepth 100000 in
theorem hist_eq (H : List Int) (hl : H.length = 24) (w : World) : (Op.equalIn 10000 29 (.agg (hv H)) (.agg (hv H))).run Try.prog w = .ok true w := by
  obtain ⟨a0, a1, a2, a3, a4, a5, a6, a7, a8, a9, b0, b1, b2, b3, b4, b5, b6, b7, b8, b9, c0, c1, c2, c3, rfl⟩ := list24 H hl
  have hz : ∀ w, (sizeOf 3).run Try.prog w = .ok 1 w := fun _ => by kernel_rfl
  have hg : ∀ w, (isAgg 3).run Try.prog w = .ok false w := fun _ => by kernel_rfl
  have hi := fun (w : World) a b => run_equalIn_int (P := Try.prog) w 9998 3 .i64 .i64 a b Try.underlying3
  unfold hv Op.equalIn
  simp [run_underlying Try.underlying29, hz, hg, hi, Std.Legacy.Range.forIn_eq_forIn_range', List.range', part, vi]
theorem hist_cells (H : List Int) (hl : H.length = 24) (w : World) (g : Nat) (t : TypeId) (h : Blk w g t (hv H)) : (loadCellsFrom ⟨g, 0, none⟩ 0 24 #[]).run Try.prog w = .ok (hv H) w := by
  have hl2 : (hv H).toList.length = 24 := by simp [hv, hl]
  have := run_loadCells_list (P := Try.prog) w ⟨g, 0, none⟩ (hv H).toList (fun j v hv' => by
    rw [add_lit, Nat.zero_add, h.cell]
    simpa using hv')
  rw [hl2] at this
  simpa [loadCells] using this
end Go.Proofs.Ytfebncpfhdgkpaa
