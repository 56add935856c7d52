/- A span that came in, opened to plain data; a row of spans likewise. Nothing is assumed. -/
import Derived.Test.YtomefcngaclehaaOpenAny
import Derived.Test.YtomefcngaclehaaSpnA
namespace Go.Proofs.Ytomefcngaclehaa
open Go.RowKit Go.ChangeShapes Go.WideShapes Go.ChangeAt Go.Joins Go.Deep

section
variable {H : Type} {enc : TypeId × Value → H} {P : Program} {W : World}
def RT (cs : List Value) : Prop := ∃ s : ByteArray, cs = [.string s] ∧ s.size ≤ maxLen
def RSp (cs : List Value) : Prop := ∃ s : Sp, cs = spL s ∧ True
theorem opens_span {t ts : TypeId} {f0 f1 : Field} (hs : P.underlying t = some (.struct #[f0, f1])) (e0 : f0.type = ts ∧ f0.offset = 0) (e1 : f1.type = ts ∧ f1.offset = 1)
    (hS : P.underlying ts = some .string) (cS : P.cellsOf ts = 1) (ct : P.cellsOf t = 2) : Opens enc P W t RSp := by
  refine (opens_struct [RT, RT] hs (fun i f R hf hR => ?_)).mono ?_
  · match i, hf, hR with
    | 0, hf, hR => simp at hf hR; subst hf hR; rw [e0.1]; exact opens_string hS
    | 1, hf, hR => simp at hf hR; subst hf hR; rw [e1.1]; exact opens_string hS
    | i + 2, hf, _ => simp at hf
  · rintro cs ⟨hl, hq⟩
    rw [ct] at hl
    obtain ⟨x, y, rfl⟩ : ∃ a b, cs = [a, b] := by
      match cs, hl with
      | [a, b], _ => exact ⟨a, b, rfl⟩
    have q0 := hq 0 f0 _ rfl rfl
    have q1 := hq 1 f1 _ rfl rfl
    rw [e0.1, e0.2, cS] at q0
    rw [e1.1, e1.2, cS] at q1
    obtain ⟨a, h0, _⟩ := q0
    obtain ⟨b, h1, _⟩ := q1
    simp at h0 h1
    subst h0 h1
    exact ⟨(a, b), rfl, trivial⟩
end

set_option maxRecDepth 100000 in
theorem opens_spn {H : Type} {enc : TypeId × Value → H} {W : World} : Opens enc Try.prog W 41 RSp :=
  opens_span Try.underlying41 ⟨rfl, rfl⟩ ⟨rfl, rfl⟩ Try.underlying9 (by kernel_rfl) (by kernel_rfl)
set_option maxRecDepth 100000 in
theorem open_spn {H : Type} {enc : TypeId × Value → H} {W : World} {r : Reach} {base : Nat} {v : Value} {d : DataW H} {p : List MemPlace} (hv : Value.okWide Try.prog W r base 41 v) (h : DataW.Trod enc Try.prog W 0 (fun _ => true) true 41 v d p) :
    ∃ (x y : ByteArray), v = .agg #[.string x, .string y] := by
  obtain ⟨cs, rfl, _, s, hcs, _⟩ := top_struct Try.underlying41 opens_spn hv h
  obtain ⟨q⟩ := cs
  have hq : q = spL s := hcs
  subst hq
  exact ⟨s.1, s.2, rfl⟩
set_option maxRecDepth 100000 in
theorem open_spns {H : Type} {enc : TypeId × Value → H} {W : World} {r : Reach} {base : Nat} {v : Value} {d : DataW H} {p : List MemPlace} (hv : Value.okWide Try.prog W r base 39 v) (h : DataW.Trod enc Try.prog W 0 (fun _ => true) true 39 v d p) :
    ∃ (A : Option Addr) (n c : Nat) (L : List Sp), v = .slice A n c ∧ n ≤ c ∧ c ≤ maxLen ∧ (A = none → c = 0) ∧ L.length = n ∧ RdP W A L := by
  obtain ⟨A, n, c, xs, rfl, h1, h2, h3, h4, h5, h6⟩ := top_slice (s := 2) Try.underlying39 (by kernel_rfl) (by decide) opens_spn hv h
  obtain ⟨L, rfl, hL⟩ := list_choice (f := spL) (Q := fun _ => True) xs (fun x hx => by
    obtain ⟨s, hs, _⟩ := h5 x hx
    exact ⟨s, hs, trivial⟩)
  rw [← List.flatMap_def] at h6
  have h7 : L.length = n := by simpa using h4
  refine ⟨A, n, c, L, rfl, h1, h2, h3, h7, ?_⟩
  unfold RdP
  rw [h7]
  exact h6
end Go.Proofs.Ytomefcngaclehaa
