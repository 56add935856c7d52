/- Plain: which mutations may be. No program is named here, and nothing is assumed. -/
import Derived.Test.YthbhbechemnidaaDoorMutI
import Derived.Test.YthbhbechemnidaaDoorRnK
namespace Go.Proofs.YthbhbechemnidaaDoor
open Go.RowKit Go.Sort

/-- May there be such a mutation? -/
def MutRt (m : Mut) : Prop := right3 m.at_ = true ∧ keyB m.key = true ∧ OverOk m.ov m.at_ ∧ 0 ≤ m.exp ∧ m.exp ≤ 1099511627776 ∧ (m.exp ≠ 0 → m.kind = 1 ∧ m.tab = 1) ∧ (m.val.size ≠ 0 → m.kind = 1) ∧ valB m.val = true ∧
  (m.kind = 3 → keyB m.en = true ∧ Op.bytesLess m.key.toList m.en.toList = true) ∧ (m.kind ≠ 3 → m.en.size = 0) ∧ ((m.tab = 1 ∧ m.ov.length = 0 ∧ 1 ≤ m.kind ∧ m.kind ≤ 3) ∨ (m.tab = 2 ∧ 1 ≤ m.kind ∧ m.kind ≤ 2))
noncomputable def mrtB (m : Mut) : Bool := @decide (MutRt m) (Classical.propDecidable _)
theorem mrtB_no {m : Mut} (h : ¬ MutRt m) : mrtB m = false := @decide_eq_false _ (Classical.propDecidable _) h
theorem mrtB_yes {m : Mut} (h : MutRt m) : mrtB m = true := @decide_eq_true _ (Classical.propDecidable _) h
theorem mrt_of {m : Mut} (h : mrtB m = true) : MutRt m := @of_decide_eq_true _ (Classical.propDecidable _) h
end Go.Proofs.YthbhbechemnidaaDoor
