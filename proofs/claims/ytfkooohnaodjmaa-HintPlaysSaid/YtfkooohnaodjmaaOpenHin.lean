/- A row of calls of the law on hints that came in, opened to plain data. Nothing is assumed. -/
import Derived.Test.YtfkooohnaodjmaaOpenMut
import Derived.Test.YtfkooohnaodjmaaHinG
namespace Go.Proofs.Ytfkooohnaodjmaa
open Go.RowKit Go.ChangeShapes Go.WideShapes Go.ChangeAt Go.Joins Go.Deep

def opL (o : OpS) : List Value := [.int .i64 o.kind, .int .i64 o.to, .int .i64 o.now, .int .i64 o.e.m.tab, .int .i64 o.e.m.kind, .string o.e.m.key, .string o.e.m.en, .string o.e.m.val, .int .i64 o.e.m.exp, .int .i64 o.e.m.at_.1, .int .i64 o.e.m.at_.2.1, .int .i64 o.e.m.at_.2.2, .slice o.e.A o.e.n o.e.c]
/-- What a call that came in is. -/
def OpQ (W : World) (o : OpS) : Prop := (W64 o.kind ∧ W64 o.to ∧ W64 o.now) ∧ MutQ W o.e
theorem thirteen_ {α : Type} (l : List α) (h : l.length = 13) : ∃ a b c d e f g i j k m n p, l = [a, b, c, d, e, f, g, i, j, k, m, n, p] := by
  match l, h with
  | [a, b, c, d, e, f, g, i, j, k, m, n, p], _ => exact ⟨a, b, c, d, e, f, g, i, j, k, m, n, p, rfl⟩
set_option maxRecDepth 100000 in
theorem opens_op {H : Type} {enc : TypeId × Value → H} {W : World} : Opens enc Try.prog W 35 (fun cs => ∃ o : OpS, cs = opL o ∧ OpQ W o) := by
  refine (opens_struct [RI, RI, RI, MutR W] Try.underlying35 (fun i f R hf hR => ?_)).mono ?_
  · match i, hf, hR with
    | 0, hf, hR => simp at hf hR; subst hf hR; exact opens_i Try.underlying3
    | 1, hf, hR => simp at hf hR; subst hf hR; exact opens_i Try.underlying3
    | 2, hf, hR => simp at hf hR; subst hf hR; exact opens_i Try.underlying3
    | 3, hf, hR => simp at hf hR; subst hf hR; exact opens_apiMut
    | i + 4, hf, _ => simp at hf
  · rintro cs ⟨hl, hq⟩
    rw [show Try.prog.cellsOf 35 = 13 from by kernel_rfl] at hl
    obtain ⟨x0, x1, x2, x3, x4, x5, x6, x7, x8, x9, x10, x11, x12, rfl⟩ := thirteen_ cs hl
    have q0 := hq 0 _ _ rfl rfl
    have q1 := hq 1 _ _ rfl rfl
    have q2 := hq 2 _ _ rfl rfl
    have q3 := hq 3 _ _ rfl rfl
    rw [show Try.prog.cellsOf _ = 1 from by kernel_rfl] at q0 q1 q2
    rw [show Try.prog.cellsOf _ = 10 from by kernel_rfl] at q3
    obtain ⟨a, h0, w0⟩ := q0
    obtain ⟨b, h1, w1⟩ := q1
    obtain ⟨c, h2, w2⟩ := q2
    obtain ⟨m, A, n, k, h3, i1, i2, i3, i4, i5⟩ := q3
    simp at h0 h1 h2
    subst h0 h1 h2
    refine ⟨⟨a, b, c, ⟨m, A, n, k⟩⟩, ?_, ⟨w0, w1, w2⟩, i1, i2, i3, i4, i5⟩
    simp [mutC] at h3
    obtain ⟨r3, r4, r5, r6, r7, r8, r9, r10, r11, r12⟩ := h3
    subst r3 r4 r5 r6 r7 r8 r9 r10 r11 r12
    rfl
set_option maxRecDepth 100000 in
theorem open_calls {H : Type} {enc : TypeId × Value → H} {W : World} {r : Reach} {base : Nat} {v : Value} {d : DataW H} {p : List MemPlace} (hv : Value.okWide Try.prog W r base 22 v) (h : DataW.Trod enc Try.prog W 0 (fun _ => true) true 22 v d p) :
    ∃ (A : Option Addr) (n c : Nat) (O : List OpS), v = .slice A n c ∧ n ≤ c ∧ c ≤ maxLen ∧ (A = none → c = 0) ∧ O.length = n ∧ (∀ o ∈ O, OpQ W o) ∧ Reads W W.heap.size 13 A n (O.flatMap opL) := by
  obtain ⟨A, n, c, xs, rfl, h1, h2, h3, h4, h5, h6⟩ := top_slice (s := 13) Try.underlying22 (by kernel_rfl) (by decide) opens_op hv h
  obtain ⟨L, rfl, hL⟩ := list_choice (f := opL) (Q := OpQ W) xs h5
  rw [← List.flatMap_def] at h6
  exact ⟨A, n, c, L, rfl, h1, h2, h3, by simpa using h4, hL, h6⟩
end Go.Proofs.Ytfkooohnaodjmaa
