/- Small laws on parts of texts. No program is named here, and nothing is assumed. -/
import Derived.Test.YtimmfcbpdnlfjaaDoorRnD
namespace Go.Proofs.YtimmfcbpdnlfjaaDoor
open Go.RowKit Go.Sort Go.Lib

theorem bl_append (a b : ByteArray) : bl (a ++ b) = bl a ++ bl b := by
  unfold bl
  rw [ByteArray.data_append, Array.toList_append]
theorem bl_one (s : ByteArray) (k : Nat) (hk : k < s.size) : bl (s.extract k (k + 1)) = [s[k]] := by
  rw [bl_extract, List.take_succ_eq_append_getElem (by rw [bl_length]; exact hk), bl_get s k hk]
  rw [List.drop_append, List.drop_of_length_le (by rw [List.length_take, bl_length]; omega)]
  have : k - ((bl s).take k).length = 0 := by rw [List.length_take, bl_length]; omega
  rw [this]
  rfl
theorem cut_mid {P : Program} {t : TypeId} (ht : P.underlying t = some .string) (s : ByteArray) (a b : Nat) (hab : a ≤ b) (hb : b ≤ s.size) (w : World) :
    (Instr.slice t (.string s) (some (.int .i64 (a : Int))) (some (.int .i64 (b : Int))) none).run P w = .ok (.string (s.extract a b)) w := by
  rw [run_slice_string w _ _ _ _ _ _ ht (by omega) (by omega) (by omega)]
  simp
theorem fresh_below {w : World} {S : List (List UInt8)} {v : Value} {w' : World} (h : OwnS w' w.heap.size v S) (hb : Below w.heap.size w w') : FreshS w S (.returned v) w' := ⟨v, rfl, h, hb⟩
end Go.Proofs.YtimmfcbpdnlfjaaDoor
