/- The walk of the law ConfTurns: it returns true, and nothing that was there ahead of the call has turned. No condition. -/
import Derived.Test.YtnaaknkknhediaaConfT0
import Derived.Test.YtnaaknkknhediaaConfT1
import Derived.Test.YtnaaknkknhediaaConfT2
import Derived.Test.YtnaaknkknhediaaConfT3
import Derived.Test.YtnaaknkknhediaaConfT4
namespace Go.Proofs.Ytnaaknkknhediaa
open Go.RowKit

theorem conf_turns_walk (w : World) (e : Int) (o0 o1 o2 o3 o4 : Bool) (j0 j1 j2 j3 j4 : Int) (we : (Lit.int .i64 e).wf = true) (n : Int) (_ : (Lit.int .i64 n).wf = true) :
    Calls Try.prog 5 #[.agg #[.int .i64 e, .bool o0, .bool o1, .bool o2, .bool o3, .bool o4, .int .i64 j0, .int .i64 j1, .int .i64 j2, .int .i64 j3, .int .i64 j4], .int .i64 n] w fun x w' => x = .returned (.bool true) ∧ Below w.heap.size w w' := by
  have he0 : -9223372036854775808 ≤ e := (bounds_i64 we).1
  have he := Int.lt_or_le e 1099511627776
  rcases cases5 n with h | h | rfl | rfl | rfl | rfl | rfl
  · exact turns_neg e o0 o1 o2 o3 o4 j0 j1 j2 j3 j4 n w h
  · exact turns_big e o0 o1 o2 o3 o4 j0 j1 j2 j3 j4 n w h
  · rcases he with he | he
    · cases o0
      · exact turns_inlo0 e o1 o2 o3 o4 j0 j1 j2 j3 j4 w he0 he
      · exact turns_outlo0 e o1 o2 o3 o4 j0 j1 j2 j3 j4 w he0 he
    · cases o0
      · exact turns_inhi0 e o1 o2 o3 o4 j0 j1 j2 j3 j4 w he
      · exact turns_outhi0 e o1 o2 o3 o4 j0 j1 j2 j3 j4 w he
  · rcases he with he | he
    · cases o1
      · exact turns_inlo1 e o0 o2 o3 o4 j0 j1 j2 j3 j4 w he0 he
      · exact turns_outlo1 e o0 o2 o3 o4 j0 j1 j2 j3 j4 w he0 he
    · cases o1
      · exact turns_inhi1 e o0 o2 o3 o4 j0 j1 j2 j3 j4 w he
      · exact turns_outhi1 e o0 o2 o3 o4 j0 j1 j2 j3 j4 w he
  · rcases he with he | he
    · cases o2
      · exact turns_inlo2 e o0 o1 o3 o4 j0 j1 j2 j3 j4 w he0 he
      · exact turns_outlo2 e o0 o1 o3 o4 j0 j1 j2 j3 j4 w he0 he
    · cases o2
      · exact turns_inhi2 e o0 o1 o3 o4 j0 j1 j2 j3 j4 w he
      · exact turns_outhi2 e o0 o1 o3 o4 j0 j1 j2 j3 j4 w he
  · rcases he with he | he
    · cases o3
      · exact turns_inlo3 e o0 o1 o2 o4 j0 j1 j2 j3 j4 w he0 he
      · exact turns_outlo3 e o0 o1 o2 o4 j0 j1 j2 j3 j4 w he0 he
    · cases o3
      · exact turns_inhi3 e o0 o1 o2 o4 j0 j1 j2 j3 j4 w he
      · exact turns_outhi3 e o0 o1 o2 o4 j0 j1 j2 j3 j4 w he
  · rcases he with he | he
    · cases o4
      · exact turns_inlo4 e o0 o1 o2 o3 j0 j1 j2 j3 j4 w he0 he
      · exact turns_outlo4 e o0 o1 o2 o3 j0 j1 j2 j3 j4 w he0 he
    · cases o4
      · exact turns_inhi4 e o0 o1 o2 o3 j0 j1 j2 j3 j4 w he
      · exact turns_outhi4 e o0 o1 o2 o3 j0 j1 j2 j3 j4 w he
end Go.Proofs.Ytnaaknkknhediaa
