/- A slice of slices of numbers, and a configuration, opened to plain data. No program is named here, and nothing is assumed. -/
import Derived.Test.YtfebncpfhdgkpaaOpenAny
import Derived.Test.YtfebncpfhdgkpaaOpenConf
import Derived.Test.YtfebncpfhdgkpaaConfK
namespace Go.Proofs.Ytfebncpfhdgkpaa
open Go.RowKit Go.ChangeShapes Go.WideShapes Go.ChangeAt Go.Joins Go.Deep

section
variable {H : Type} {enc : TypeId × Value → H} {P : Program} {W : World}

theorem opens_ints {t e : TypeId} (ht : P.underlying t = some (.slice e)) (he : P.underlying e = some (.int .i64)) (ce : P.cellsOf e = 1) :
    Opens enc P W t fun cs => ∃ x : RcI, cs = [x.1] ∧ RecI W W.heap.size x ∧ x.2.length ≤ maxLen := by
  refine (opens_slice ht ce (by omega) (opens_int he)).mono ?_
  rintro cs ⟨A, n, c, xs, rfl, h1, h2, hA, h3, h4, h5⟩
  obtain ⟨ys, rfl, _⟩ := list_choice (f := fun b : Int => [vi b]) (Q := fun _ => True) xs fun x hx => by
    obtain ⟨a, rfl, hw⟩ := h4 x hx
    exact ⟨a, rfl, trivial⟩
  rw [flatten_one] at h5
  simp only [List.length_map] at h3
  subst h3
  exact ⟨(_, ys), rfl, ⟨A, c, rfl, h1, hA, h5⟩, Nat.le_trans h1 h2⟩

theorem open_intss {r : Reach} {base : Nat} {tl tb te : TypeId} {v : Value} {d : DataW H} {p : List MemPlace} (ht : P.underlying tl = some (.slice tb)) (hb : P.underlying tb = some (.slice te)) (he : P.underlying te = some (.int .i64)) (c1 : P.cellsOf tb = 1) (c2 : P.cellsOf te = 1)
    (hv : Value.okWide P W r base tl v) (h : DataW.Trod enc P W 0 (fun _ => true) true tl v d p) :
    ∃ (A : Option Addr) (n c : Nat) (rs : List RcI), v = .slice A n c ∧ n ≤ c ∧ c ≤ maxLen ∧ rs.length = n ∧ Reads W W.heap.size 1 A n (rs.map fun x : RcI => x.1) ∧ (∀ x ∈ rs, RecI W W.heap.size x) ∧ (∀ x ∈ rs, x.2.length ≤ maxLen) := by
  obtain ⟨A, n, c, xs, rfl, h1, h2, _, h4, h5, h6⟩ := top_slice ht c1 (by omega) (opens_ints hb he c2) hv h
  obtain ⟨ys, rfl, hq⟩ := list_choice (f := fun x : RcI => [x.1]) (Q := fun x => RecI W W.heap.size x ∧ x.2.length ≤ maxLen) xs h5
  rw [flatten_one] at h6
  simp only [List.length_map] at h4
  exact ⟨A, n, c, ys, rfl, h1, h2, h4, h6, fun x hx => (hq x hx).1, fun x hx => (hq x hx).2⟩
end
end Go.Proofs.Ytfebncpfhdgkpaa
