/- Contract of the reference's first. -/
import Derived.Test.YtimmfcbpdnlfjaaDoorRnK
namespace Go.Proofs.YtimmfcbpdnlfjaaDoor
open Go.RowKit Go.Sort Go.Lib

set_option maxRecDepth 100000 in
set_option maxHeartbeats 1000000 in
theorem ref01_first (s : ByteArray) (p r d : Nat) (hD : Utf8.decode s p = (r, d)) (hp : p < s.size) (w : World) (hT : Tabs w) :
    Calls Tryd.prog 59 #[.string (s.extract p s.size)] w fun e w' => e = .returned (.tuple #[.int .i64 d, .bool (!badD r d)]) ∧ Below w.heap.size w w' := by
  have HC := Lib.hid (Tryd.utf8_DecodeRuneInString (s.extract p s.size) w hT)
  rw [decodeGo_at s p hp, hD] at HC
  clear hT hD
  go_enter Tryd.func59, Tryd.ntmps59
  go_wp2_with fail
  refine HC.out.mono ?_
  clear HC
  rintro e w1 ⟨rfl, b1⟩
  by_cases hr : r = 65533
  · subst hr
    have hne : ((65533 : Int) != 65533) = false := by decide
    by_cases hd : d < 2
    · have hd2 : decide (1 < (d : Int)) = false := by simp; omega
      have H : Hid (badD 65533 d = true) := Lib.hid (by unfold badD; simp; omega)
      go_wp2_with fail
      go_ret2
      exact ⟨by rw [H.out]; rfl, b1⟩
    · have hd2 : decide (1 < (d : Int)) = true := by simp; omega
      have H : Hid (badD 65533 d = false) := Lib.hid (by unfold badD; simp; omega)
      go_wp2_with fail
      go_ret2
      exact ⟨by rw [H.out]; rfl, b1⟩
  · have hne : ((r : Int) != 65533) = true := by simp; omega
    have H : Hid (badD r d = false) := Lib.hid (by unfold badD; simp [hr])
    go_wp2_with fail
    go_ret2
    exact ⟨by rw [H.out]; rfl, b1⟩
end Go.Proofs.YtimmfcbpdnlfjaaDoor
