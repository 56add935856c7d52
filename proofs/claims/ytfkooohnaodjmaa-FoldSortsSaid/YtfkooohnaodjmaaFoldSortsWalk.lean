/- Walk of FoldSorts. -/
import Derived.Test.YtfkooohnaodjmaaFolY
import Derived.Test.YtfkooohnaodjmaaFolU
import Derived.Test.YtfkooohnaodjmaaStrsEq
namespace Go.Proofs.Ytfkooohnaodjmaa
open Go.RowKit Go.Sort

theorem strs_of (K : List ByteArray) : K.map Value.string = (K.map bl).map sv := by
  rw [List.map_map]
  rfl

set_option maxRecDepth 100000 in
set_option maxHeartbeats 4000000 in
theorem fold_sorts_walk (w : World) (A : Option Addr) (n c : Nat) (K : List ByteArray) (_ : n ≤ c) (_ : c ≤ maxLen) (hKn : K.length = n) (hr : Reads w w.heap.size 1 A n (K.map Value.string)) (hK : ∀ s ∈ K, s.size ≤ maxLen) (hA : A = none → c = 0) :
    Calls Try.prog 4 #[.slice A n c] w fun e w' => e = .returned (.bool true) ∧ Below w.heap.size w w' := by
  have hn : n ≤ 9223372036854775807 := by
    have h1 : c ≤ maxLen := by assumption
    unfold maxLen at h1
    omega
  have HG := Lib.hid (law39_great A n c K w hr hn hK)
  have HR := Lib.hid hr
  have HN := Lib.hid hKn
  have HA := Lib.hid hA
  clear hr hKn hK hA
  go_enter Try.func4, Try.ntmps4
  go_wp2_with fail
  refine HG.out.mono ?_
  clear HG
  rintro e w1 ⟨q, rfl, hq, rfl⟩
  cases q with
  | true =>
    go_wp2_with fail
    go_ret
    exact ⟨rfl, Below.refl _ _⟩
  | false =>
  obtain ⟨h30, hs⟩ := hq rfl
  have HZ := Lib.hid hs
  clear hq hs
  go_wp2_with fail
  go_loopw [3] (fun v3 wr => ∃ k : Nat, v3 = .int .i64 k ∧ 1 ≤ k ∧ (k ≤ n ∨ k = 1) ∧ Below w.heap.size w wr) (fun v3 _ => n - (intOf v3).toNat)
  case atStart => exact ⟨1, rfl, Nat.le_refl _, .inr rfl, Below.refl _ _⟩
  case round =>
    obtain ⟨k, rfl, hk1, hk, hB⟩ := hrel
    by_cases hkn : k < n
    · have hkl : k < K.length := by have := HN.out; omega
      obtain ⟨b, off, rfl, hb, hall⟩ := Reads.form ((HR.out.below hB).more hB.size) (by omega)
      obtain ⟨x, hx⟩ : ∃ x, K[k - 1]'(by omega) = x := ⟨_, rfl⟩
      obtain ⟨y, hy⟩ : ∃ y, K[k]'hkl = y := ⟨_, rfl⟩
      have c1 := hall (k - 1) (.string x) (by rw [List.getElem?_map, List.getElem?_eq_getElem (by omega), hx]; rfl)
      have c2 := hall k (.string y) (by rw [List.getElem?_map, List.getElem?_eq_getElem hkl, hy]; rfl)
      have hzx : x.size ≤ 10000000 := by rw [← hx]; have := HZ.out _ (List.getElem_mem (show k - 1 < K.length by omega)); omega
      have hzy : y.size ≤ 10000000 := by rw [← hy]; have := HZ.out _ (List.getElem_mem hkl); omega
      obtain ⟨z, hz⟩ : ∃ z, natC x y = z := ⟨_, rfl⟩
      have k1 : ∀ d os, Calls Try.prog 14 #[.string x, .string y] (grow (redrawn wr d) os) fun e w'' => e = .returned (.int .i64 z) ∧ ∃ p : Regrown, w'' = grow (redrawn wr p.d) p.os := fun d os => Calls.regrown_of (by rw [← hz]; exact fold_Natural x y hzx hzy _)
      have k2 : ∀ d os, Calls Try.prog 15 #[.string x, .string y] (grow (redrawn wr d) os) fun e w'' => e = .returned (.int .i64 z) ∧ ∃ p : Regrown, w'' = grow (redrawn wr p.d) p.os := fun d os => Calls.regrown_of (by rw [← hz]; exact ref39_Natural x y hzx hzy _)
      have hzz : (z != z) = false := by simp
      obtain ⟨j, hj⟩ : ∃ j : Nat, k = j + 1 := ⟨k - 1, by omega⟩
      subst hj
      rw [show j + 1 - 1 = j by omega] at c1
      have hji : ((j + 1 : Nat) : Int) - 1 = (j : Int) := by omega
      clear hall hx hy hz
      go_upto_region 6 with fail
      have e1 := cell_regrown c1
      have e2 := cell_regrown c2
      clear c1 c2
      refine wp_region_quiet_below (by kernel_rfl) (by kernel_rfl) ?_
      repeat (go_big_quiet_step (first | with_reducible exact k1 _ _ | with_reducible exact k2 _ _))
      refine wpQuiet_nil ?_
      rintro w3 ⟨⟨d, os⟩, rfl⟩
      have hBw := below_regrown_of hB hB.size d os
      clear e1 e2 k1 k2
      go_wp2_with fail
      go_roundw
      case rel => exact ⟨j + 1 + 1, by go_num, by omega, by omega, hBw⟩
      case measure => simp [intOf]; omega
    · have HS := Lib.hid (fold_Sort A n c K wr ((HR.out.below hB).more hB.size) HA.out (fun s hs => by have := HZ.out s hs; omega) (by omega))
      go_wp2_with fail
      refine HS.out.mono ?_
      clear HS
      rintro e w2 ⟨A2, n2, c2, rfl, hn2, -, r2, b2⟩
      have hB2 := hB.trans (b2.mono hB.size)
      have HR2 := Lib.hid r2
      have HS := Lib.hid (ref39_Sort A n c K w2 HN.out ((HR.out.below hB2).more hB2.size) (by omega) (fun s hs => by have := HZ.out s hs; omega))
      have HN2 := Lib.hid hn2
      have hle : n2 ≤ 1000 := by have := sortN_len K []; have h3 := HN.out; rw [← hn2]; simp [sortN] at this ⊢; omega
      clear r2 hn2 b2
      go_wp2_with fail
      refine HS.out.mono ?_
      clear HS
      rintro e w3 ⟨v3, rfl, o3, b3⟩
      obtain ⟨A3, c3, rfl, -, -, r3⟩ := o3.reads
      have hB3 := hB2.trans (b3.mono hB2.size)
      have r2 := (HR2.out.below b3).more b3.size
      rw [HN2.out] at r3
      rw [strs_of] at r2 r3
      have HE := Lib.hid (strs_Equal A2 A3 n2 n2 c2 c3 _ _ w3 r2 r3 (by omega))
      rw [decide_eq_true rfl] at HE
      rw [HN2.out]
      clear r2 r3 o3 b3
      go_wp2_with fail
      refine HE.out.mono ?_
      rintro e w4 ⟨rfl, b4⟩
      have hB4 := hB3.trans (b4.mono hB3.size)
      go_wp2_with fail
      refine (law39_alive w4).mono ?_
      rintro e w5 ⟨rfl, b5⟩
      go_wp2_with fail
      go_ret
      exact ⟨rfl, hB4.trans (b5.mono hB4.size)⟩
end Go.Proofs.Ytfkooohnaodjmaa
