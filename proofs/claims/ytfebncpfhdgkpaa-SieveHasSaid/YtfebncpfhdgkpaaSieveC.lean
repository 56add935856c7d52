/- Contract of Filter.places: the four bits of a key. -/
import Derived.Test.YtfebncpfhdgkpaaSieveA
namespace Go.Proofs.Ytfebncpfhdgkpaa
open Go.RowKit Go.Sort

/-- The places found so far. -/
def arrP (R : List Nat) (n i : Nat) : Array Value := #[.int .i64 ((if 0 < i then place R n 0 else 0 : Nat) : Int), .int .i64 ((if 1 < i then place R n 1 else 0 : Nat) : Int), .int .i64 ((if 2 < i then place R n 2 else 0 : Nat) : Int), .int .i64 ((if 3 < i then place R n 3 else 0 : Nat) : Int)]
theorem arrP_set (R : List Nat) (n i : Nat) (hi : i < 4) : (arrP R n i).setIfInBounds i (.int .i64 ((place R n i : Nat) : Int)) = arrP R n (i + 1) := by
  match i, hi with
  | 0, _ => rfl
  | 1, _ => rfl
  | 2, _ => rfl
  | 3, _ => rfl
theorem arrP_at (R : List Nat) (n i j : Nat) (hj : j < 4) : ∃ x, (arrP R n i)[j]? = some (.int .i64 x) := by
  match j, hj with
  | 0, _ => exact ⟨_, rfl⟩
  | 1, _ => exact ⟨_, rfl⟩
  | 2, _ => exact ⟨_, rfl⟩
  | 3, _ => exact ⟨_, rfl⟩
theorem wrap64_small (n : Nat) (h : n < 4294967296) : wrap64 ((n : Nat) : Int) = (n : Int) := by
  have h3 := IntKind.wrap_i64 ((n : Nat) : Int)
  unfold wrap64
  omega

set_option maxRecDepth 100000 in
set_option maxHeartbeats 1000000 in
theorem filter_places (A : Option Addr) (n c : Nat) (s : ByteArray) (w : World) (hn0 : 0 < n) (hn : n ≤ 65536) :
    Calls Try.prog 82 #[.agg #[.slice A n c], .string s] w fun e w' => e = .returned (.agg (arrP (rest s 0) (8 * n) 4)) ∧ Below w.heap.size w w' := by
  obtain ⟨R, hR⟩ : ∃ R, rest s 0 = R := ⟨_, rfl⟩
  have HC := Lib.hid (fun w => sieve_sum s w)
  rw [hR] at HC ⊢
  clear hR
  have lA := sumA_lt R
  have lB := sumB_lt R
  go_enter Try.func82, Try.ntmps82
  go_wp2_with fail
  have BF := ((Blk.new w 61 #[.slice A n c]).alloc (.cells #[.int .i64 0, .int .i64 0, .int .i64 0, .int .i64 0] 111)).alloc (.cells #[.int .i64 0, .int .i64 0, .int .i64 0, .int .i64 0] 111)
  have B4 := (Blk.new (w.alloc (.cells #[.slice A n c] 61)) 111 (arrP R (8 * n) 0)).alloc (.cells #[.int .i64 0, .int .i64 0, .int .i64 0, .int .i64 0] 111)
  have B5 := Blk.new ((w.alloc (.cells #[.slice A n c] 61)).alloc (.cells #[.int .i64 0, .int .i64 0, .int .i64 0, .int .i64 0] 111)) 111 (arrP R (8 * n) 0)
  have hB := (((Below.refl w.heap.size w).alloc (Nat.le_refl _) (.cells #[.slice A n c] 61)).alloc (by simp) (.cells #[.int .i64 0, .int .i64 0, .int .i64 0, .int .i64 0] 111)).alloc (by simp; omega) (.cells #[.int .i64 0, .int .i64 0, .int .i64 0, .int .i64 0] 111)
  rw [alloc_size] at B4
  rw [alloc_size, alloc_size] at B5
  change Blk (((w.alloc (.cells #[.slice A n c] 61)).alloc (.cells #[.int .i64 0, .int .i64 0, .int .i64 0, .int .i64 0] 111)).alloc (.cells #[.int .i64 0, .int .i64 0, .int .i64 0, .int .i64 0] 111)) _ _ _ at B4 B5
  generalize ((w.alloc (.cells #[.slice A n c] 61)).alloc (.cells #[.int .i64 0, .int .i64 0, .int .i64 0, .int .i64 0] 111)).alloc (.cells #[.int .i64 0, .int .i64 0, .int .i64 0, .int .i64 0] 111) = W at *
  refine (HC.out W).mono ?_
  rintro e w1 ⟨rfl, b1⟩
  replace BF := BF.below b1 BF.lt
  replace B4 := B4.below b1 B4.lt
  replace B5 := B5.below b1 B5.lt
  replace hB := hB.trans (b1.mono hB.size)
  clear b1 HC
  have hw8 : IntKind.i64.wrap (8 * (n : Int)) = 8 * (n : Int) := by rw [IntKind.wrap_i64]; omega
  have cf := BF.cell
  go_wp2_with fail
  clear cf BF hw8
  go_loopw [6, 20] (fun v6 v20 wr => ∃ i a : Nat, v20 = .int .i64 i ∧ i ≤ 4 ∧ v6 = .int .u32 (a : Int) ∧ a = (sumA R + i * sumB R) % 4294967296 ∧ Blk wr (w.heap.size + 1 + 1) 111 (arrP R (8 * n) i) ∧ Blk wr (w.heap.size + 1) 111 (arrP R (8 * n) 0) ∧ Below w.heap.size w wr) (fun _ v20 _ => 4 - (intOf v20).toNat)
  case atStart => exact ⟨0, sumA R, rfl, by omega, rfl, by rw [Nat.zero_mul, Nat.add_zero, Nat.mod_eq_of_lt lA], B5, B4, hB⟩
  case round =>
    clear B4 B5 hB
    obtain ⟨i, a, rfl, hi, rfl, ha, B5, B4, hB⟩ := hrel
    have la : a < 4294967296 := by rw [ha]; exact Nat.mod_lt _ (by decide)
    by_cases hi4 : i < 4
    · obtain ⟨x0, hx0⟩ := arrP_at R (8 * n) i i hi4
      have c5 : wr.cell? ⟨w.heap.size + 1 + 1, i, none⟩ = some (.int .i64 x0) := by rw [B5.cell]; exact hx0
      have f5 := B5.frozen i
      have hpl : place R (8 * n) i = a % (8 * n) := by unfold place; rw [ha]
      have hpv : wrap64 ((a : Int) % (8 * (n : Int))) = ((place R (8 * n) i : Nat) : Int) := by
        have h1 : (a : Int) % (8 * (n : Int)) = ((place R (8 * n) i : Nat) : Int) := by rw [hpl]; simp
        rw [h1]
        exact wrap64_small _ (by have := place_lt R (8 * n) i (by omega); omega)
      have hnext : (a + sumB R) % 4294967296 = (sumA R + (i + 1) * sumB R) % 4294967296 := by
        rw [ha, Nat.add_mul]
        generalize i * sumB R = X
        omega
      have hnv : ((a : Int) + ((sumB R : Nat) : Int)) % 4294967296 = (((a + sumB R) % 4294967296 : Nat) : Int) := by omega
      have hn8 : ((8 * (n : Int)) == 0) = false := by simp; omega
      have B5' := B5.set_ i (.int .i64 ((place R (8 * n) i : Nat) : Int))
      rw [arrP_set R (8 * n) i hi4] at B5'
      have B4' := B4.far (p := ⟨w.heap.size + 1 + 1, i, none⟩) (by simp) (.int .i64 ((place R (8 * n) i : Nat) : Int))
      have hB' := hB.setCell (p := ⟨w.heap.size + 1 + 1, i, none⟩) (by simp; omega) (.int .i64 ((place R (8 * n) i : Nat) : Int))
      have HPV := Lib.hid hpv
      have HNV := Lib.hid hnv
      have HNX := Lib.hid hnext
      clear hpv hnv hnext hpl hx0 ha
      go_wp2_with fail
      rw [HPV.out, HNV.out]
      go_roundw
      case rel => exact ⟨i + 1, (a + sumB R) % 4294967296, by go_num, by omega, rfl, HNX.out, B5', B4', hB'⟩
      case measure => simp [intOf]; omega
    · have hie : i = 4 := by omega
      subst hie
      have hq : ∃ q0 q1 q2 q3 : Nat, arrP R (8 * n) 4 = #[.int .i64 (q0 : Int), .int .i64 (q1 : Int), .int .i64 (q2 : Int), .int .i64 (q3 : Int)] := ⟨_, _, _, _, rfl⟩
      obtain ⟨q0, q1, q2, q3, hq⟩ := hq
      have HQ := Lib.hid hq
      rw [hq] at B5
      replace B4 : Blk wr (w.heap.size + 1) 111 #[.int .i64 0, .int .i64 0, .int .i64 0, .int .i64 0] := B4
      have c5 := B5.cell
      have c4 := B4.cell
      have f4 := B4.frozen
      have zz := ((((B4.set_ 0 (.int .i64 (q0 : Int))).set_ 1 (.int .i64 (q1 : Int))).set_ 2 (.int .i64 (q2 : Int))).set_ 3 (.int .i64 (q3 : Int))).cell
      simp at zz
      clear hq ha
      go_wp2_with fail
      (try simp only [Exit.inBlock, Exit.then])
      refine bodyPost_ret (v := .agg #[.int .i64 (q0 : Int), .int .i64 (q1 : Int), .int .i64 (q2 : Int), .int .i64 (q3 : Int)]) (by simp [results, Try.results82, go_sem, zz]) rfl ⟨by rw [HQ.out], ?_⟩
      exact (((hB.setCell (p := ⟨w.heap.size + 1, 0, none⟩) (by simp) _).setCell (p := ⟨w.heap.size + 1, 1, none⟩) (by simp) _).setCell (p := ⟨w.heap.size + 1, 2, none⟩) (by simp) _).setCell (p := ⟨w.heap.size + 1, 3, none⟩) (by simp) _
end Go.Proofs.Ytfebncpfhdgkpaa
