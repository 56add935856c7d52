/- Contract of gaps.Runs. The row has at most 10^9 numbers. -/
import Derived.Test.YtfebncpfhdgkpaaPlainG
import Derived.Test.YtfebncpfhdgkpaaRows1
import Derived.Test.YtfebncpfhdgkpaaOwn
import Derived.Deep.Cut
import Derived.Outline
import Derived.BigRegion
import Derived.BigQuiet
namespace Go.Proofs.Ytfebncpfhdgkpaa
open Go.RowKit

def c2 (p : Int × Nat) : List Value := [.int .i64 p.1, .int .i64 (p.2 : Int)]
theorem c2_len (p : Int × Nat) : (c2 p).length = 2 := rfl
theorem c2_one (s : Int × Nat) : ∀ u ∈ c2 s, u.oneCell' = true := by
  intro u hu
  simp [c2] at hu
  rcases hu with rfl | rfl <;> rfl
theorem info_pair : (Try.prog.info? 120).map (fun i => (i.zero, i.size, i.bytes)) = some (some (.agg #[.int .i64 0, .int .i64 0]), 2, 16) := by kernel_rfl

/-- The slice value v owns just the runs R, in a block from base on. -/
def RunsV (w : World) (base : Nat) (v : Value) (R : List (Int × Nat)) : Prop := w.ownsRow base 120 2 v R.length (R.flatMap c2)
theorem RunsV.nil_ (w : World) (base : Nat) : RunsV w base (.slice none 0 0) [] := World.ownsRow_nil _ _ _ _

def RunsRel (w : World) (l : List Int) (n : Nat) (v3 v9 : Value) (wr : World) : Prop :=
  ∃ k : Nat, v9 = .int .i64 k ∧ k ≤ n ∧ RunsV wr w.heap.size v3 (rs (l.take k)) ∧ Below w.heap.size w wr

theorem flat_set (R : List (Int × Nat)) (f : Int) (c : Nat) : ((R ++ [(f, c)]).flatMap c2).set (R.length * 2 + 1) (.int .i64 ((c : Int) + 1)) = (R ++ [(f, c + 1)]).flatMap c2 := by
  have h := flat_len c2 2 c2_len R
  rw [List.flatMap_append, List.flatMap_append, ← h, List.set_append_right _ _ (by omega)]
  simp [c2]

/-- append of a run. -/
theorem append_run {ops : Array Oper} {rest : List Oper} {o : Oper} {a : Act} {Q : Exit → Act → World → Prop} (w : World) (s : Int × Nat) (u : Array Value) (hu : u.toList = c2 s) (t : TypeId) (hgd : o.guard = none) (sl x : Operand)
    (ho : o.op = .call { callee := .builtin .append, args := #[sl, x], argTypes := #[119, 119] }) (base : Nat) (v : Value) (S : List (Int × Nat)) (hs : a.eval sl = v) (hown : RunsV w base v S)
    (hx : a.eval x = .slice (some ⟨w.heap.size, 0, none⟩) 1 1) (hlen : S.length ≤ 1000000000) (hbase : base ≤ w.heap.size)
    (h : ∀ v' w', RunsV w' base v' (S ++ [s]) → w.grownBy w' v.ownBlock → LiesIn w v v' → wpList Try.prog ops Q rest (a.put o.dst v') w') :
    wpList Try.prog ops Q (o :: rest) a (w.alloc (.cells u t)) := by
  refine append_elem w _ (c2 s) hu t hgd sl x 119 ho base 120 _ 2 16 Try.underlying119 info_pair rfl (by decide) v S.length (S.flatMap c2) hs hown rfl (c2_one s) hx (by unfold maxLen; omega) (by omega) hbase ?_
  intro v' w' h1 h2 h3
  refine h v' w' ?_ h2 h3
  unfold RunsV
  rw [List.flatMap_append, List.length_append]
  simpa using h1

theorem reads_int {w : World} {B n : Nat} {A : Option Addr} {l : List Int} (h : Reads w B 1 A n (l.map vi)) (hn : 0 < n) : l.length = n ∧ ∃ b off, A = some ⟨b, off, none⟩ ∧ b < B ∧ ∀ k (hk : k < l.length), w.cell? ⟨b, off + k, none⟩ = some (.int .i64 l[k]) := by
  obtain ⟨b, off, hA, hb, hc⟩ := h.form hn
  exact ⟨by have := h.1; simpa using this, b, off, hA, hb, fun k hk => hc k _ (by simp [hk, vi])⟩

set_option maxRecDepth 100000 in
set_option maxHeartbeats 1000000 in
theorem gaps_Runs (A : Option Addr) (n c : Nat) (l : List Int) (w : World) (hr : Reads w w.heap.size 1 A n (l.map vi)) (hlen : n ≤ 1000000000) (hwf : ∀ x ∈ l, (Lit.int .i64 x).wf = true) :
    Calls Try.prog 89 #[.slice A n c] w fun e w' => ∃ v', e = .returned v' ∧ RunsV w' w.heap.size v' (rs l) ∧ Below w.heap.size w w' := by
  have HR := Lib.hid hr
  have HW := Lib.hid hwf
  have hll : l.length = n := by have := hr.1; simpa using this
  have HL := Lib.hid hll
  clear hr hll hwf
  go_enter Try.func89, Try.ntmps89
  go_wp2_with fail
  go_loopw [3, 9] (fun v3 v9 wr => RunsRel w l n v3 v9 wr) (fun _ v9 _ => n - (intOf v9).toNat)
  case atStart => exact ⟨0, rfl, Nat.zero_le _, RunsV.nil_ _ _, Below.refl _ _⟩
  case round =>
    obtain ⟨k, rfl, hk, RV, hB⟩ := hrel
    by_cases hkn : k < n
    · obtain ⟨_, b, off, rfl, hb, hc⟩ := reads_int (HR.out.below hB) (by omega)
      have hkl : k < l.length := by have := HL.out; omega
      have q0 := hc k hkl
      obtain ⟨x, hx⟩ : ∃ x, l[k] = x := ⟨_, rfl⟩
      have hwx : (Lit.int .i64 x).wf = true := hx ▸ HW.out _ (List.getElem_mem hkl)
      have hwx' := bounds_i64 hwx
      have hRl : (rs (l.take k)).length ≤ k := by have := rs_length (l.take k); rw [List.length_take] at this; omega
      rw [hx] at q0
      have hcase : (k = 0 ∧ rs (l.take (k + 1)) = rs (l.take k) ++ [(x, 1)]) ∨ ∃ p, 0 < k ∧ wr.cell? ⟨b, off + (k - 1), none⟩ = some (.int .i64 p) ∧ -9223372036854775808 ≤ p ∧
          ((decide (p < x) = false ∧ rs (l.take (k + 1)) = rs (l.take k) ++ [(x, 1)]) ∨ (decide (p < x) = true ∧ (x - 1 == p) = false ∧ rs (l.take (k + 1)) = rs (l.take k) ++ [(x, 1)]) ∨
          (decide (p < x) = true ∧ (x - 1 == p) = true ∧ ∃ R' f c, rs (l.take k) = R' ++ [(f, c)] ∧ rs (l.take (k + 1)) = R' ++ [(f, c + 1)])) := by
        rcases Nat.eq_zero_or_pos k with h0 | h0
        · left
          refine ⟨h0, ?_⟩
          rw [← hx]
          exact rs_push l k hkl (.inl h0)
        · right
          have hwp := bounds_i64 (HW.out _ (List.getElem_mem (show k - 1 < l.length by omega)))
          refine ⟨_, h0, hc (k - 1) (by omega), hwp.1, ?_⟩
          by_cases h1 : l[k - 1] < x
          · right
            by_cases h2 : l[k - 1] + 1 = x
            · right
              exact ⟨by simpa using h1, by simp; omega, rs_follow l k h0 hkl (by omega)⟩
            · left
              exact ⟨by simpa using h1, by simp; omega, hx ▸ rs_push l k hkl (.inr (by omega))⟩
          · left
            exact ⟨by simpa using h1, hx ▸ rs_push l k hkl (.inr (by omega))⟩
      have HX := Lib.hid hx
      clear hx hc
      have hbw := hB.size
      rcases hcase with ⟨h0, hp⟩ | ⟨p, h0, qp, hwp, ⟨h1, hp⟩ | ⟨h1, h2, hp⟩ | ⟨h1, h2, R', f, cc, hp, hp'⟩⟩
      · have hk0 : decide (0 < k) = false := by simp [h0]
        clear h0
        obtain ⟨R, hRe⟩ : ∃ R, rs (l.take k) = R := ⟨_, rfl⟩
        rw [hRe] at RV hp hRl
        obtain ⟨A3, c3, rfl, _, _, _⟩ := own_form RV
        have HP := Lib.hid hp
        clear hp hRe
        go_wp2_with (at_builtin; refine append_run wr (x, 1) _ rfl _ rfl _ _ rfl w.heap.size _ R rfl RV rfl (by omega) hbw ?_; intro v6 w6 R6 g6 L6)
        have hB6 := below_own hB hB.size RV (Nat.le_refl _) g6
        go_roundw
        case rel => exact ⟨k + 1, by go_num, by omega, by rw [HP.out]; exact R6, hB6⟩
        case measure => simp [intOf]; omega
      · obtain ⟨R, hRe⟩ : ∃ R, rs (l.take k) = R := ⟨_, rfl⟩
        rw [hRe] at RV hp hRl
        obtain ⟨A3, c3, rfl, _, _, _⟩ := own_form RV
        have HP := Lib.hid hp
        clear hp hRe
        go_wp2_with (at_builtin; refine append_run wr (x, 1) _ rfl _ rfl _ _ rfl w.heap.size _ R rfl RV rfl (by omega) hbw ?_; intro v6 w6 R6 g6 L6)
        have hB6 := below_own hB hB.size RV (Nat.le_refl _) g6
        go_roundw
        case rel => exact ⟨k + 1, by go_num, by omega, by rw [HP.out]; exact R6, hB6⟩
        case measure => simp [intOf]; omega
      · have hx1 : -9223372036854775807 ≤ x := by have h9 : p < x := (by simpa using h1); omega
        obtain ⟨R, hRe⟩ : ∃ R, rs (l.take k) = R := ⟨_, rfl⟩
        rw [hRe] at RV hp hRl
        obtain ⟨A3, c3, rfl, _, _, _⟩ := own_form RV
        have HP := Lib.hid hp
        clear hp hRe
        go_wp2_with (at_builtin; refine append_run wr (x, 1) _ rfl _ rfl _ _ rfl w.heap.size _ R rfl RV rfl (by omega) hbw ?_; intro v6 w6 R6 g6 L6)
        have hB6 := below_own hB hB.size RV (Nat.le_refl _) g6
        go_roundw
        case rel => exact ⟨k + 1, by go_num, by omega, by rw [HP.out]; exact R6, hB6⟩
        case measure => simp [intOf]; omega
      · have HP := Lib.hid hp'
        rw [hp] at RV hRl
        obtain ⟨A3, c3, rfl, _, _, hF⟩ := own_form RV
        obtain ⟨g, rfl, hg1, hg2, _⟩ := hF (by simp)
        have hl1 : (R' ++ [(f, cc)]).length = R'.length + 1 := by simp
        rw [hl1] at RV hRl
        have hx1 : -9223372036854775807 ≤ x := by have h9 : p < x := (by simpa using h1); omega
        have hcc : cc ≤ 1000000000 := by
          have h3 := psum_le (good_rs (l.take k)) R'.length (by rw [hp]; simp)
          have h4 : (rs (l.take k))[R'.length]? = some (f, cc) := by rw [hp]; simp
          have h5 : (rs (l.take k))[R'.length]'(by rw [hp]; simp) = (f, cc) := by
            have := List.getElem?_eq_getElem (l := rs (l.take k)) (i := R'.length) (by rw [hp]; simp)
            rw [this] at h4
            injection h4
          rw [h5, List.length_take] at h3
          simp only at h3
          omega
        obtain ⟨m, hm⟩ : ∃ m, R'.length = m := ⟨_, rfl⟩
        have hz : ((R' ++ [(f, cc)]).flatMap c2)[m * 2 + 1]? = some (.int .i64 cc) := by
          rw [← hm, ← flat_len c2 2 c2_len R', List.flatMap_append, List.getElem?_append_right (by omega)]
          simp [c2]
        rw [hm] at hl1 hRl
        have RO : wr.ownsRow w.heap.size 120 2 (.slice (some ⟨g, 0, none⟩) (m + 1) c3) (m + 1) ((R' ++ [(f, cc)]).flatMap c2) := by
          have h9 := RV
          unfold RunsV at h9
          rw [hl1] at h9
          rw [hm] at h9
          exact h9
        clear RV
        have hcell := World.ownsRow.cellAt RO (m * 2 + 1) (by omega)
        rw [hz] at hcell
        have hfro := World.ownsRow.frozenAt RO (m * 2 + 1)
        have hst := (World.ownsRow.stored RO (m * 2 + 1) (.int .i64 ((cc : Int) + 1)))
        rw [← hm, flat_set, hm] at hst
        have hl2 : (R' ++ [(f, cc + 1)]).length = m + 1 := by simp [hm]
        rw [hl1]
        have HST := Lib.hid hst
        have HL2 := Lib.hid hl2
        have HHP := Lib.hid hp
        clear hst hl2 hm hl1 hp hp' RO hz
        have hgs : w.heap.size ≤ g := hg1
        go_upto_region 7 with fail
        go_region
        go_wp2_with fail
        go_roundw
        case rel => exact ⟨k + 1, by go_num, by omega, by unfold RunsV; rw [HP.out, HL2.out]; exact HST.out.1, below_drewN (Below.grown hB HST.out.2 hB.size (fun q hq => by injection hq with hq; omega)) 1⟩
        case measure => simp [intOf]; omega
    · have hkn' : k = n := by omega
      subst hkn'
      have hll := HL.out
      rw [List.take_of_length_le (by omega)] at RV
      go_wp2_with fail
      go_ret
      exact ⟨_, rfl, RV, hB⟩

end Go.Proofs.Ytfebncpfhdgkpaa
