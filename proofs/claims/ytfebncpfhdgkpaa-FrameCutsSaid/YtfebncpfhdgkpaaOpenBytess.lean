/- A slice of slices of bytes, and one of slices of numbers, opened to plain data. No program is named here, and nothing is assumed. -/
import Derived.Test.YtfebncpfhdgkpaaOpenAny
import Derived.Test.YtfebncpfhdgkpaaFrameC
namespace Go.Proofs.Ytfebncpfhdgkpaa
open Go.RowKit Go.ChangeShapes Go.WideShapes Go.ChangeAt Go.Joins Go.Deep

section
variable {H : Type} {enc : TypeId × Value → H} {P : Program} {W : World}

theorem u8_wf {a : Int} (h : (Lit.int .u8 a).wf = true) : ∃ c : UInt8, Value.int .u8 a = vb c := by
  have h1 : 0 ≤ a ∧ a ≤ 255 := by simpa [Lit.wf, IntKind.min, IntKind.max, IntKind.bits, IntKind.signed] using h
  refine ⟨UInt8.ofNat a.toNat, ?_⟩
  unfold vb
  rw [UInt8.toNat_ofNat', Nat.mod_eq_of_lt (by omega), Int.toNat_of_nonneg h1.1]

theorem opens_bytes {t e : TypeId} (ht : P.underlying t = some (.slice e)) (he : P.underlying e = some (.int .u8)) (ce : P.cellsOf e = 1) :
    Opens enc P W t fun cs => ∃ x : Rc, cs = [x.1] ∧ RecR W W.heap.size x ∧ x.2.length ≤ maxLen := by
  refine (opens_slice ht ce (by omega) (opens_int he)).mono ?_
  rintro cs ⟨A, n, c, xs, rfl, h1, h2, _, h3, h4, h5⟩
  obtain ⟨ys, rfl, _⟩ := list_choice (f := fun b : UInt8 => [vb b]) (Q := fun _ => True) xs fun x hx => by
    obtain ⟨a, rfl, hw⟩ := h4 x hx
    obtain ⟨b, hb⟩ := u8_wf hw
    exact ⟨b, by rw [hb], trivial⟩
  rw [flatten_one] at h5
  simp only [List.length_map] at h3
  subst h3
  exact ⟨(_, ys), rfl, ⟨A, c, rfl, h5⟩, Nat.le_trans h1 h2⟩

theorem open_bytess {r : Reach} {base : Nat} {tl tb te : TypeId} {v : Value} {d : DataW H} {p : List MemPlace} (ht : P.underlying tl = some (.slice tb)) (hb : P.underlying tb = some (.slice te)) (he : P.underlying te = some (.int .u8)) (c1 : P.cellsOf tb = 1) (c2 : P.cellsOf te = 1)
    (hv : Value.okWide P W r base tl v) (h : DataW.Trod enc P W 0 (fun _ => true) true tl v d p) :
    ∃ (A : Option Addr) (n c : Nat) (rs : List Rc), v = .slice A n c ∧ n ≤ c ∧ c ≤ maxLen ∧ (A = none → c = 0) ∧ rs.length = n ∧ Reads W W.heap.size 1 A n (rs.map fun x : Rc => x.1) ∧ (∀ x ∈ rs, RecR W W.heap.size x) ∧ (∀ x ∈ rs, x.2.length ≤ maxLen) := by
  obtain ⟨A, n, c, xs, rfl, h1, h2, h3, h4, h5, h6⟩ := top_slice ht c1 (by omega) (opens_bytes hb he c2) hv h
  obtain ⟨ys, rfl, hq⟩ := list_choice (f := fun x : Rc => [x.1]) (Q := fun x => RecR W W.heap.size x ∧ x.2.length ≤ maxLen) xs h5
  rw [flatten_one] at h6
  simp only [List.length_map] at h4
  exact ⟨A, n, c, ys, rfl, h1, h2, h3, h4, h6, fun x hx => (hq x hx).1, fun x hx => (hq x hx).2⟩
end
end Go.Proofs.Ytfebncpfhdgkpaa
