/- '==' of two arrays of five numbers, or of five bits: place by place. No program is named here. -/
import Derived.Laws.StructEq
import Derived.WalkKit
namespace Go.Proofs.Ytfebncpfhdgkpaa
open Go Go.RowKit
section
variable {P : Program} (w : World)
theorem run_equalIn_five_int (d : Nat) (t e : TypeId) (ht : P.underlying t = some (.array 5 e)) (he : P.underlying e = some (.int .i64)) (hz : ∀ w, (sizeOf e).run P w = .ok 1 w) (hg : ∀ w, (isAgg e).run P w = .ok false w) (a0 a1 a2 a3 a4 b0 b1 b2 b3 b4 : Int) :
    (Op.equalIn (d + 2) t (.agg #[.int .i64 a0, .int .i64 a1, .int .i64 a2, .int .i64 a3, .int .i64 a4]) (.agg #[.int .i64 b0, .int .i64 b1, .int .i64 b2, .int .i64 b3, .int .i64 b4])).run P w = .ok (a0 == b0 && (a1 == b1 && (a2 == b2 && (a3 == b3 && a4 == b4)))) w := by
  have hi := fun (w : World) a b => run_equalIn_int (P := P) w d e .i64 .i64 a b he
  unfold Op.equalIn
  simp [run_underlying ht, hz, hg, hi, Std.Legacy.Range.forIn_eq_forIn_range', List.range', part]
  by_cases h0 : a0 = b0 <;> by_cases h1 : a1 = b1 <;> by_cases h2 : a2 = b2 <;> by_cases h3 : a3 = b3 <;> by_cases h4 : a4 = b4 <;> simp [h0, h1, h2, h3, h4]
theorem run_equalIn_five_bool (d : Nat) (t e : TypeId) (ht : P.underlying t = some (.array 5 e)) (he : P.underlying e = some .bool) (hz : ∀ w, (sizeOf e).run P w = .ok 1 w) (hg : ∀ w, (isAgg e).run P w = .ok false w) (a0 a1 a2 a3 a4 b0 b1 b2 b3 b4 : Bool) :
    (Op.equalIn (d + 2) t (.agg #[.bool a0, .bool a1, .bool a2, .bool a3, .bool a4]) (.agg #[.bool b0, .bool b1, .bool b2, .bool b3, .bool b4])).run P w = .ok (a0 == b0 && (a1 == b1 && (a2 == b2 && (a3 == b3 && a4 == b4)))) w := by
  have hi := fun (w : World) a b => run_equalIn_bool' (P := P) w d e a b he
  unfold Op.equalIn
  simp [run_underlying ht, hz, hg, hi, Std.Legacy.Range.forIn_eq_forIn_range', List.range', part]
  by_cases h0 : a0 = b0 <;> by_cases h1 : a1 = b1 <;> by_cases h2 : a2 = b2 <;> by_cases h3 : a3 = b3 <;> by_cases h4 : a4 = b4 <;> simp [h0, h1, h2, h3, h4]
end
end Go.Proofs.Ytfebncpfhdgkpaa
