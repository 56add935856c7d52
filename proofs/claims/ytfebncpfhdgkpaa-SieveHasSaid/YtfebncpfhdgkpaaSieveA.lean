/- Contract of sieve.sum. No condition. -/
import Derived.Test.YtfebncpfhdgkpaaRunes
import Derived.Test.YtfebncpfhdgkpaaPlainV
import Derived.Laws.BitsAllLaws
import Derived.Deep.Cut
import Derived.Outline
namespace Go.Proofs.Ytfebncpfhdgkpaa
open Go.RowKit Go.Sort

set_option maxRecDepth 100000 in
set_option maxHeartbeats 1000000 in
theorem sieve_sum (s : ByteArray) (w : World) : Calls Try.prog 103 #[.string s] w fun e w' => e = .returned (.tuple #[.int .u32 (sumA (rest s 0) : Nat), .int .u32 (sumB (rest s 0) : Nat)]) ∧ Below w.heap.size w w' := by
  obtain ⟨R, hR⟩ : ∃ R, rest s 0 = R := ⟨_, rfl⟩
  have HR := Lib.hid hR
  rw [hR]
  clear hR
  go_enter Try.func103, Try.ntmps103
  go_wp2_with fail
  go_loopw [4, 5] (fun v4 v5 wr => ∃ (k a b : Nat), v4 = .int .u32 (a : Int) ∧ v5 = .int .u32 (b : Int) ∧ a < 4294967296 ∧ b < 4294967296 ∧ It wr w.heap.size s k ∧ Below w.heap.size w wr ∧ (rest s k).foldl hA a = R.foldl hA 2166136261 ∧ (rest s k).foldl hBB b = R.foldl hBB 5381) (fun _ _ wr => s.size - wr.iterPos w.heap.size)
  case atStart => exact ⟨0, 2166136261, 5381, rfl, rfl, by omega, by omega, It.new _ _ _, below_iter (Below.refl _ _) (Nat.le_refl _) _ _, by rw [HR.out], by rw [HR.out]⟩
  case round =>
    obtain ⟨k, a, b, rfl, rfl, ha, hb, BI, hB, fA, fB⟩ := hrel
    have hpos := BI.pos
    by_cases hk : k < s.size
    · obtain ⟨r, d, hD, hd1, hr, hcase⟩ := decode_some s k hk
      have hnx : ∀ ty, (Instr.next (.pointer (some ⟨w.heap.size, 0, none⟩)) true ty).run Try.prog wr = .ok (.tuple #[.bool true, .int .i64 k, .int .i32 r]) (wr.iterAt w.heap.size s (k + d)) := by
        intro ty
        rw [Lib.run_next_any_at wr _ s k ty BI hk, hD]
      rw [rest_cons s k hk hD hd1, List.foldl_cons] at fA fB
      have FA := Lib.hid fA
      have FB := Lib.hid fB
      have hx : bits .xor .u32 (a : Int) (r : Int) = ((a ^^^ r : Nat) : Int) := u32_xor_nat a r ha (by omega)
      have BI2 := BI.at_ (k + d)
      have hB2 := Lib.below_iterAt hB (k := w.heap.size) (Nat.le_refl _) s (k + d)
      have HX := Lib.hid hx
      have la : hA a r < 4294967296 := Nat.mod_lt _ (by decide)
      have lb : hBB b r < 4294967296 := Nat.mod_lt _ (by decide)
      have va : bits .xor .u32 (a : Int) (r : Int) * 16777619 % 4294967296 = ((hA a r : Nat) : Int) := by rw [hx]; unfold hA; omega
      have vb' : ((b : Int) * 33 % 4294967296 + (r : Int)) % 4294967296 = ((hBB b r : Nat) : Int) := by unfold hBB; omega
      have HA := Lib.hid va
      have HB := Lib.hid vb'
      clear hcase hD hx va vb' fA fB
      go_wp2_with fail
      go_roundw
      case rel => exact ⟨k + d, hA a r, hBB b r, by rw [HA.out], by rw [HB.out], la, lb, BI2, hB2, FA.out, FB.out⟩
      case measure => rw [BI2.pos, hpos]; omega
    · have hnx : ∀ ty, (Instr.next (.pointer (some ⟨w.heap.size, 0, none⟩)) true ty).run Try.prog wr = .ok (.tuple #[.bool false]) wr := fun ty => Lib.run_next_end_at wr _ s k ty BI hk
      rw [rest_end s k (by omega)] at fA fB
      have h1 : bits .xor .u32 (a : Int) ((a : Int) / 8192) = ((sumA R : Nat) : Int) := by
        have h2 := u32_xor_nat a (a / 8192) ha (by omega)
        have h3 : (((a / 8192 : Nat)) : Int) = (a : Int) / 8192 := by omega
        rw [← h3, h2]
        unfold sumA
        rw [← fA]
        rfl
      have h2 : bits .or .u32 (b : Int) 1 = ((sumB R : Nat) : Int) := by
        have h3 := u32_or_nat b 1 hb (by decide)
        rw [show ((1 : Nat) : Int) = 1 from rfl] at h3
        rw [h3]
        unfold sumB
        rw [← fB]
        rfl
      have H1 := Lib.hid h1
      have H2 := Lib.hid h2
      clear h1 h2 fA fB
      go_wp2_with fail
      go_ret2
      exact ⟨by rw [H1.out, H2.out]; rfl, hB⟩
end Go.Proofs.Ytfebncpfhdgkpaa
