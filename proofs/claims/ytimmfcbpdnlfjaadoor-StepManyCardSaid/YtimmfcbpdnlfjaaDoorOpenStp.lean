/- A step that came in, opened to plain data; a row of steps likewise. Nothing is assumed. -/
import Derived.Test.YtimmfcbpdnlfjaaDoorOpenAny
import Derived.Test.YtimmfcbpdnlfjaaDoorStpR
namespace Go.Proofs.YtimmfcbpdnlfjaaDoor
open Go.RowKit Go.ChangeShapes Go.WideShapes Go.ChangeAt Go.Joins Go.Deep

section
variable {H : Type} {enc : TypeId × Value → H} {P : Program} {W : World}
def RI (cs : List Value) : Prop := ∃ a : Int, cs = [.int .i64 a]
theorem opens_i {t : TypeId} (ht : P.underlying t = some (.int .i64)) : Opens enc P W t RI := (opens_int ht).mono fun _ ⟨a, h, _⟩ => ⟨a, h⟩
def RS (cs : List Value) : Prop := ∃ s : ByteArray, cs = [.string s] ∧ s.size ≤ maxLen
theorem nine_ {α : Type} (l : List α) (h : l.length = 9) : ∃ a b c d e f g i j, l = [a, b, c, d, e, f, g, i, j] := by
  match l, h with
  | [a, b, c, d, e, f, g, i, j], _ => exact ⟨a, b, c, d, e, f, g, i, j, rfl⟩
end
set_option maxRecDepth 100000 in
theorem opens_step {H : Type} {enc : TypeId × Value → H} {W : World} : Opens enc Tryd.prog W 26 (fun cs => ∃ s : Stp, cs = stpL s ∧ StpW s) := by
  refine (opens_struct [RI, RI, RI, RI, RI, RS, RS, RS, RI] Tryd.underlying26 (fun i f R hf hR => ?_)).mono ?_
  · match i, hf, hR with
    | 0, hf, hR => simp at hf hR; subst hf hR; exact opens_i Tryd.underlying22
    | 1, hf, hR => simp at hf hR; subst hf hR; exact opens_i Tryd.underlying3
    | 2, hf, hR => simp at hf hR; subst hf hR; exact opens_i Tryd.underlying3
    | 3, hf, hR => simp at hf hR; subst hf hR; exact opens_i Tryd.underlying23
    | 4, hf, hR => simp at hf hR; subst hf hR; exact opens_i Tryd.underlying24
    | 5, hf, hR => simp at hf hR; subst hf hR; exact opens_string Tryd.underlying9
    | 6, hf, hR => simp at hf hR; subst hf hR; exact opens_string Tryd.underlying9
    | 7, hf, hR => simp at hf hR; subst hf hR; exact opens_string Tryd.underlying9
    | 8, hf, hR => simp at hf hR; subst hf hR; exact opens_i Tryd.underlying3
    | i + 9, hf, _ => simp at hf
  · rintro cs ⟨hl, hq⟩
    rw [show Tryd.prog.cellsOf 26 = 9 from by kernel_rfl] at hl
    obtain ⟨x0, x1, x2, x3, x4, x5, x6, x7, x8, rfl⟩ := nine_ cs hl
    have q0 := hq 0 _ _ rfl rfl
    have q1 := hq 1 _ _ rfl rfl
    have q2 := hq 2 _ _ rfl rfl
    have q3 := hq 3 _ _ rfl rfl
    have q4 := hq 4 _ _ rfl rfl
    have q5 := hq 5 _ _ rfl rfl
    have q6 := hq 6 _ _ rfl rfl
    have q7 := hq 7 _ _ rfl rfl
    have q8 := hq 8 _ _ rfl rfl
    rw [show Tryd.prog.cellsOf _ = 1 from by kernel_rfl] at q0
    rw [show Tryd.prog.cellsOf _ = 1 from by kernel_rfl] at q1
    rw [show Tryd.prog.cellsOf _ = 1 from by kernel_rfl] at q2
    rw [show Tryd.prog.cellsOf _ = 1 from by kernel_rfl] at q3
    rw [show Tryd.prog.cellsOf _ = 1 from by kernel_rfl] at q4
    rw [show Tryd.prog.cellsOf _ = 1 from by kernel_rfl] at q5
    rw [show Tryd.prog.cellsOf _ = 1 from by kernel_rfl] at q6
    rw [show Tryd.prog.cellsOf _ = 1 from by kernel_rfl] at q7
    rw [show Tryd.prog.cellsOf _ = 1 from by kernel_rfl] at q8
    obtain ⟨a0, h0⟩ := q0
    obtain ⟨a1, h1⟩ := q1
    obtain ⟨a2, h2⟩ := q2
    obtain ⟨a3, h3⟩ := q3
    obtain ⟨a4, h4⟩ := q4
    obtain ⟨a5, h5, w5⟩ := q5
    obtain ⟨a6, h6, w6⟩ := q6
    obtain ⟨a7, h7, w7⟩ := q7
    obtain ⟨a8, h8⟩ := q8
    simp at h0 h1 h2 h3 h4 h5 h6 h7 h8
    subst h0 h1 h2 h3 h4 h5 h6 h7 h8
    exact ⟨⟨a0, a1, a2, a3, a4, a5, a6, a7, a8⟩, rfl, w5, w6, w7⟩
set_option maxRecDepth 100000 in
theorem open_step {H : Type} {enc : TypeId × Value → H} {W : World} {r : Reach} {base : Nat} {v : Value} {d : DataW H} {p : List MemPlace} (hv : Value.okWide Tryd.prog W r base 26 v) (h : DataW.Trod enc Tryd.prog W 0 (fun _ => true) true 26 v d p) :
    ∃ s : Stp, v = .agg (stpC s) ∧ StpW s := by
  obtain ⟨cs, rfl, _, s, hcs, q⟩ := top_struct Tryd.underlying26 opens_step hv h
  have e : cs = stpC s := by
    cases cs
    simpa [stpL] using congrArg List.toArray hcs
  subst e
  exact ⟨s, rfl, q⟩
set_option maxRecDepth 100000 in
theorem open_steps {H : Type} {enc : TypeId × Value → H} {W : World} {r : Reach} {base : Nat} {v : Value} {d : DataW H} {p : List MemPlace} (hv : Value.okWide Tryd.prog W r base 35 v) (h : DataW.Trod enc Tryd.prog W 0 (fun _ => true) true 35 v d p) :
    ∃ (A : Option Addr) (n c : Nat) (L : List Stp), v = .slice A n c ∧ n ≤ c ∧ c ≤ maxLen ∧ (A = none → c = 0) ∧ L.length = n ∧ (∀ s ∈ L, StpW s) ∧ Reads W W.heap.size 9 A n (L.flatMap stpL) := by
  obtain ⟨A, n, c, xs, rfl, h1, h2, h3, h4, h5, h6⟩ := top_slice (s := 9) Tryd.underlying35 (by kernel_rfl) (by decide) opens_step hv h
  obtain ⟨L, rfl, hL⟩ := list_choice (f := stpL) (Q := StpW) xs h5
  rw [← List.flatMap_def] at h6
  exact ⟨A, n, c, L, rfl, h1, h2, h3, by simpa using h4, hL, h6⟩
end Go.Proofs.YtimmfcbpdnlfjaaDoor
