/- Plain: which stamps a mutation may supersede. No program is named here, and nothing is assumed. -/
import Derived.Test.YthbhbechemnidaaDoorMutE
import Derived.Test.YthbhbechemnidaaDoorStampD
import Derived.Deep.Cut
namespace Go.Proofs.YthbhbechemnidaaDoor
open Go.RowKit Go.Sort

def right3 (s : Int × Int × Int) : Bool := rightB s.1 s.2.1 s.2.2
def less3 (s t : Int × Int × Int) : Bool := decide (cmpS s.1 s.2.1 s.2.2 t.1 t.2.1 t.2.2 < 0)
/-- A stamp that may be superseded, at its place. -/
def OvStep (ov : List (Int × Int × Int)) (at_ : Int × Int × Int) (k : Nat) : Prop := ∀ s, ov[k]? = some s → right3 s = true ∧ less3 s at_ = true ∧ ∀ r, 0 < k → ov[k - 1]? = some r → less3 r s = true
def OverOk (ov : List (Int × Int × Int)) (at_ : Int × Int × Int) : Prop := ov.length ≤ 24 ∧ ∀ k, k < ov.length → OvStep ov at_ k
noncomputable def overB (ov : List (Int × Int × Int)) (at_ : Int × Int × Int) : Bool := @decide (OverOk ov at_) (Classical.propDecidable _)
theorem overB_no {ov : List (Int × Int × Int)} {at_ : Int × Int × Int} (h : ¬ OverOk ov at_) : overB ov at_ = false := @decide_eq_false _ (Classical.propDecidable _) h
theorem overB_yes {ov : List (Int × Int × Int)} {at_ : Int × Int × Int} (h : OverOk ov at_) : overB ov at_ = true := @decide_eq_true _ (Classical.propDecidable _) h
theorem over_of {ov : List (Int × Int × Int)} {at_ : Int × Int × Int} (h : overB ov at_ = true) : OverOk ov at_ := @of_decide_eq_true _ (Classical.propDecidable _) h
theorem ret_bb {a b : Bool} (h : a = b) : Ending.returned (.bool a) = .returned (.bool b) := by rw [h]
end Go.Proofs.YthbhbechemnidaaDoor
