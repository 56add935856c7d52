/- slices.Equal of two equal rows of pairs; the examples of the chapter on gaps. -/
import Derived.Test.YtfebncpfhdgkpaaGapsB
import Derived.Laws.StructEq
import Derived.StillTailTactics
namespace Go.Proofs.Ytfebncpfhdgkpaa
open Go.RowKit Go.Sort

theorem run_equalIn_two_int {P : Program} (w : World) (d : Nat) (t e : TypeId) (ht : P.underlying t = some (.array 2 e)) (he : P.underlying e = some (.int .i64)) (hz : ∀ w, (sizeOf e).run P w = .ok 1 w) (hg : ∀ w, (isAgg e).run P w = .ok false w) (a0 a1 b0 b1 : Int) :
    (Op.equalIn (d + 2) t (.agg #[.int .i64 a0, .int .i64 a1]) (.agg #[.int .i64 b0, .int .i64 b1])).run P w = .ok (a0 == b0 && a1 == b1) w := by
  have hi := fun (w : World) a b => run_equalIn_int (P := P) w d e .i64 .i64 a b he
  unfold Op.equalIn
  simp [run_underlying ht, hz, hg, hi, Std.Legacy.Range.forIn_eq_forIn_range', List.range', part]
  by_cases h0 : a0 = b0 <;> by_cases h1 : a1 = b1 <;> simp [h0, h1]

theorem reads2_at {w : World} {B n : Nat} {A : Option Addr} {R : List (Int × Nat)} (h : Reads w B 2 A n (R.flatMap c2)) (hn : 0 < n) : R.length = n ∧ ∃ b off, A = some ⟨b, off, none⟩ ∧ b < B ∧ ∀ k (hk : k < R.length), w.cell? ⟨b, off + k * 2, none⟩ = some (.int .i64 R[k].1) ∧ w.cell? ⟨b, off + k * 2 + 1, none⟩ = some (.int .i64 (R[k].2 : Int)) := by
  obtain ⟨hl, hc⟩ := h
  have hln := flat_len c2 2 c2_len R
  have hRn : R.length = n := by omega
  obtain ⟨ad, hA, hb, hcell⟩ := hc hn
  obtain ⟨b, off, sp⟩ := ad
  have h00 := flat_get c2 2 c2_len R 0 0 (by omega) (by decide)
  have hsp : sp = none := by
    have := hcell 0 _ h00
    simp [Addr.add] at this
    exact World.cell?_spot this
  subst hsp
  refine ⟨hRn, b, off, hA, hb, fun k hk => ?_⟩
  have h0 := hcell _ _ (flat_get c2 2 c2_len R k 0 hk (by decide))
  have h1 := hcell _ _ (flat_get c2 2 c2_len R k 1 hk (by decide))
  rw [add_lit] at h0 h1
  exact ⟨by simpa using h0, by simpa [Nat.add_assoc] using h1⟩

set_option maxRecDepth 100000 in
set_option maxHeartbeats 1000000 in
theorem pairs_Equal_same (A1 A2 : Option Addr) (n1 n2 c1 c2' : Nat) (R : List (Int × Nat)) (w : World) (B : Nat) (h1 : Reads w B 2 A1 n1 (R.flatMap c2)) (h2 : Reads w B 2 A2 n2 (R.flatMap c2)) (hm : n1 ≤ 9223372036854775807) :
    Calls Try.prog 88 #[.slice A1 n1 c1, .slice A2 n2 c2'] w fun e w' => e = .returned (.bool true) ∧ Below w.heap.size w w' := by
  have e1 : R.length = n1 := by have := h1.1; have := flat_len c2 2 c2_len R; omega
  have e2 : R.length = n2 := by have := h2.1; have := flat_len c2 2 c2_len R; omega
  have hE : ∀ (w : World) (a0 a1 b0 b1 : Int), (Op.equalIn 10000 120 (.agg #[.int .i64 a0, .int .i64 a1]) (.agg #[.int .i64 b0, .int .i64 b1])).run Try.prog w = .ok (a0 == b0 && a1 == b1) w :=
    fun w a0 a1 b0 b1 => run_equalIn_two_int w 9998 120 3 Try.underlying120 Try.underlying3 (fun _ => by kernel_rfl) (fun _ => by kernel_rfl) a0 a1 b0 b1
  obtain rfl : n1 = n2 := by omega
  have H1 := Lib.hid h1
  have H2 := Lib.hid h2
  have HE := Lib.hid e1
  clear h1 h2 e1 e2
  go_enter Try.func88, Try.ntmps88
  go_wp2_with fail
  go_loopw [13] (fun v13 wr => ∃ k m : Nat, v13 = .int .i64 k ∧ k ≤ n1 ∧ wr = w.drewN m) (fun v13 _ => n1 - (intOf v13).toNat)
  case atStart => exact ⟨0, 0, rfl, Nat.zero_le _, rfl⟩
  case round =>
    obtain ⟨k, m, rfl, hk, rfl⟩ := hrel
    by_cases hkn : k < n1
    · obtain ⟨hl1, b1, o1, rfl, hb1, hc1⟩ := reads2_at (H1.out.drewN m) (by omega)
      obtain ⟨hl2, b2, o2, rfl, hb2, hc2⟩ := reads2_at (H2.out.drewN m) (by omega)
      obtain ⟨p0, p1⟩ := hc1 k (by omega)
      obtain ⟨q0, q1⟩ := hc2 k (by omega)
      have p0' : ∀ m, (w.drewN m).cell? ⟨b1, o1 + k * 2, none⟩ = some (.int .i64 (R[k]'(by omega)).1) := fun _ => p0
      have p1' : ∀ m, (w.drewN m).cell? ⟨b1, o1 + k * 2 + 1, none⟩ = some (.int .i64 ((R[k]'(by omega)).2 : Int)) := fun _ => p1
      have q0' : ∀ m, (w.drewN m).cell? ⟨b2, o2 + k * 2, none⟩ = some (.int .i64 (R[k]'(by omega)).1) := fun _ => q0
      have q1' : ∀ m, (w.drewN m).cell? ⟨b2, o2 + k * 2 + 1, none⟩ = some (.int .i64 ((R[k]'(by omega)).2 : Int)) := fun _ => q1
      clear hc1 hc2 p0 p1 q0 q1
      generalize (R[k]'(by omega)).1 = x at *
      generalize (R[k]'(by omega)).2 = y at *
      clear hl1 hl2
      go_wp2_with fail
      go_quiet (fail)
      go_wp2_with fail
      go_roundw
      case rel => exact ⟨k + 1, _, by go_num, by omega, rfl⟩
      case measure => simp [intOf]; omega
    · go_wp2_with fail
      go_ret
      exact ⟨rfl, below_drewN (Below.refl _ _) _⟩
end Go.Proofs.Ytfebncpfhdgkpaa
