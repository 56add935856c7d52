/- Contract of conf.Right over rows of pairs. -/
import Derived.Test.YtfebncpfhdgkpaaConfF
import Derived.Test.YtfebncpfhdgkpaaConfA
namespace Go.Proofs.Ytfebncpfhdgkpaa
open Go.RowKit Go.Sort

/-- May there be such a configuration? -/
def CRt (e : Int) (P : List (Bool × Int)) : Prop := (0 ≤ e ∧ e ≤ 1099511627776) ∧ ∀ p ∈ P, 0 ≤ p.2 ∧ p.2 ≤ e
theorem five_pairs (P : List (Bool × Int)) (hl : P.length = 5) : ∃ o0 o1 o2 o3 o4 j0 j1 j2 j3 j4, P = [(o0, j0), (o1, j1), (o2, j2), (o3, j3), (o4, j4)] := by
  match P, hl with
  | [(o0, j0), (o1, j1), (o2, j2), (o3, j3), (o4, j4)], _ => exact ⟨o0, o1, o2, o3, o4, j0, j1, j2, j3, j4, rfl⟩
theorem cRight_iff (e : Int) (o0 o1 o2 o3 o4 : Bool) (j0 j1 j2 j3 j4 : Int) : cRight e j0 j1 j2 j3 j4 = true ↔ CRt e [(o0, j0), (o1, j1), (o2, j2), (o3, j3), (o4, j4)] := by
  unfold cRight CRt
  simp only [decide_eq_true_eq, List.mem_cons, List.not_mem_nil, or_false, forall_eq_or_imp, forall_eq]
  constructor
  · rintro ⟨h1, h2, h3, h4, h5, h6, h7⟩
    exact ⟨⟨h1, h2⟩, h3, h4, h5, h6, h7⟩
  · rintro ⟨⟨h1, h2⟩, h3, h4, h5, h6, h7⟩
    exact ⟨h1, h2, h3, h4, h5, h6, h7⟩
theorem conf_Right_yes (e : Int) (P : List (Bool × Int)) (hl : P.length = 5) (h : CRt e P) (w : World) : Calls Try.prog 90 #[.agg (cfC e P).toArray] w fun x w' => x = .returned (.bool true) ∧ Below w.heap.size w w' := by
  obtain ⟨o0, o1, o2, o3, o4, j0, j1, j2, j3, j4, rfl⟩ := five_pairs P hl
  have hr := (cRight_iff e o0 o1 o2 o3 o4 j0 j1 j2 j3 j4).2 h
  have hc := conf_Right e o0 o1 o2 o3 o4 j0 j1 j2 j3 j4 w
  rw [hr] at hc
  exact hc
theorem conf_Right_no (e : Int) (P : List (Bool × Int)) (hl : P.length = 5) (h : ¬ CRt e P) (w : World) : Calls Try.prog 90 #[.agg (cfC e P).toArray] w fun x w' => x = .returned (.bool false) ∧ Below w.heap.size w w' := by
  obtain ⟨o0, o1, o2, o3, o4, j0, j1, j2, j3, j4, rfl⟩ := five_pairs P hl
  have hr : cRight e j0 j1 j2 j3 j4 = false := by
    cases hb : cRight e j0 j1 j2 j3 j4 with
    | false => rfl
    | true => exact absurd ((cRight_iff e o0 o1 o2 o3 o4 j0 j1 j2 j3 j4).1 hb) h
  have hc := conf_Right e o0 o1 o2 o3 o4 j0 j1 j2 j3 j4 w
  rw [hr] at hc
  exact hc

theorem cfC_set_out (e : Int) (P : List (Bool × Int)) (hl : P.length = 5) (k : Nat) (hk : k < P.length) (o : Bool) : (cfC e P).toArray.setIfInBounds (1 + k) (.bool o) = (cfC e (P.set k (o, P[k].2))).toArray := by
  obtain ⟨o0, o1, o2, o3, o4, j0, j1, j2, j3, j4, rfl⟩ := five_pairs P hl
  match k, hk with
  | 0, _ => rfl
  | 1, _ => rfl
  | 2, _ => rfl
  | 3, _ => rfl
  | 4, _ => rfl
theorem cfC_set_join (e : Int) (P : List (Bool × Int)) (hl : P.length = 5) (k : Nat) (hk : k < P.length) (j : Int) : (cfC e P).toArray.setIfInBounds (6 + k) (.int .i64 j) = (cfC e (P.set k (P[k].1, j))).toArray := by
  obtain ⟨o0, o1, o2, o3, o4, j0, j1, j2, j3, j4, rfl⟩ := five_pairs P hl
  match k, hk with
  | 0, _ => rfl
  | 1, _ => rfl
  | 2, _ => rfl
  | 3, _ => rfl
  | 4, _ => rfl
end Go.Proofs.Ytfebncpfhdgkpaa
