/- A version that came in, opened to plain data. Nothing is assumed. -/
import Derived.Test.YtedegdojbhegdaaOpenAny
import Derived.Test.YtedegdojbhegdaaVerC
namespace Go.Proofs.Ytedegdojbhegdaa
open Go.RowKit Go.ChangeShapes Go.WideShapes Go.ChangeAt Go.Joins Go.Deep

/-- A number of 64 bits. -/
def W64 (a : Int) : Prop := -9223372036854775808 ≤ a ∧ a ≤ 9223372036854775807
theorem w64_of {a : Int} (h : (Lit.int .i64 a).wf = true) : W64 a := by
  have : -9223372036854775808 ≤ a ∧ a ≤ 9223372036854775807 := by simpa [Lit.wf, IntKind.min, IntKind.max, IntKind.signed, IntKind.bits] using h
  exact this

section
variable {H : Type} {enc : TypeId × Value → H} {P : Program} {W : World}
theorem two_ {α : Type} (l : List α) (h : l.length = 2) : ∃ a b, l = [a, b] := by
  match l, h with
  | [a, b], _ => exact ⟨a, b, rfl⟩
theorem three_ {α : Type} (l : List α) (h : l.length = 3) : ∃ a b c, l = [a, b, c] := by
  match l, h with
  | [a, b, c], _ => exact ⟨a, b, c, rfl⟩
theorem thirteen_ {α : Type} (l : List α) (h : l.length = 13) : ∃ a b c d e f g h i j k m n, l = [a, b, c, d, e, f, g, h, i, j, k, m, n] := by
  match l, h with
  | [a, b, c, d, e, f, g, h, i, j, k, m, n], _ => exact ⟨a, b, c, d, e, f, g, h, i, j, k, m, n, rfl⟩

def RI (cs : List Value) : Prop := ∃ a : Int, cs = [.int .i64 a] ∧ W64 a
def RB (cs : List Value) : Prop := ∃ b : Bool, cs = [.bool b]
def R3 (cs : List Value) : Prop := ∃ a b c : Int, cs = [.int .i64 a, .int .i64 b, .int .i64 c] ∧ W64 a ∧ W64 b ∧ W64 c
def RT (cs : List Value) : Prop := ∃ t : Int × Bool, cs = tc t ∧ W64 t.1
theorem opens_i {t : TypeId} (ht : P.underlying t = some (.int .i64)) : Opens enc P W t RI := (opens_int ht).mono fun _ ⟨a, h, hw⟩ => ⟨a, h, w64_of hw⟩
theorem opens_stamp {t ti : TypeId} {f0 f1 f2 : Field} (hs : P.underlying t = some (.struct #[f0, f1, f2])) (e0 : f0.type = ti ∧ f0.offset = 0) (e1 : f1.type = ti ∧ f1.offset = 1) (e2 : f2.type = ti ∧ f2.offset = 2)
    (hi : P.underlying ti = some (.int .i64)) (ci : P.cellsOf ti = 1) (ct : P.cellsOf t = 3) : Opens enc P W t R3 := by
  refine (opens_struct [RI, RI, RI] hs (fun i f R hf hR => ?_)).mono ?_
  · match i, hf, hR with
    | 0, hf, hR => simp at hf hR; subst hf hR; rw [e0.1]; exact opens_i hi
    | 1, hf, hR => simp at hf hR; subst hf hR; rw [e1.1]; exact opens_i hi
    | 2, hf, hR => simp at hf hR; subst hf hR; rw [e2.1]; exact opens_i hi
    | i + 3, hf, _ => simp at hf
  · rintro cs ⟨hl, hq⟩
    rw [ct] at hl
    obtain ⟨x, y, z, rfl⟩ := three_ cs hl
    have q0 := hq 0 f0 _ rfl rfl
    have q1 := hq 1 f1 _ rfl rfl
    have q2 := hq 2 f2 _ rfl rfl
    rw [e0.1, e0.2, ci] at q0
    rw [e1.1, e1.2, ci] at q1
    rw [e2.1, e2.2, ci] at q2
    obtain ⟨a, h0, w0⟩ := q0
    obtain ⟨b, h1, w1⟩ := q1
    obtain ⟨c, h2, w2⟩ := q2
    simp at h0 h1 h2
    subst h0 h1 h2
    exact ⟨a, b, c, rfl, w0, w1, w2⟩
theorem opens_tab {t ti tb : TypeId} {f0 f1 : Field} (hs : P.underlying t = some (.struct #[f0, f1])) (e0 : f0.type = ti ∧ f0.offset = 0) (e1 : f1.type = tb ∧ f1.offset = 1)
    (hi : P.underlying ti = some (.int .i64)) (hb : P.underlying tb = some .bool) (ci : P.cellsOf ti = 1) (cb : P.cellsOf tb = 1) (ct : P.cellsOf t = 2) : Opens enc P W t RT := by
  refine (opens_struct [RI, RB] hs (fun i f R hf hR => ?_)).mono ?_
  · match i, hf, hR with
    | 0, hf, hR => simp at hf hR; subst hf hR; rw [e0.1]; exact opens_i hi
    | 1, hf, hR => simp at hf hR; subst hf hR; rw [e1.1]; exact opens_bool hb
    | i + 2, hf, _ => simp at hf
  · rintro cs ⟨hl, hq⟩
    rw [ct] at hl
    obtain ⟨x, y, rfl⟩ := two_ cs hl
    have q0 := hq 0 f0 _ rfl rfl
    have q1 := hq 1 f1 _ rfl rfl
    rw [e0.1, e0.2, ci] at q0
    rw [e1.1, e1.2, cb] at q1
    obtain ⟨a, h0, w0⟩ := q0
    obtain ⟨b, h1⟩ := q1
    simp at h0 h1
    subst h0 h1
    exact ⟨(a, b), rfl, w0⟩
/-- What a version that came in is. -/
def VerR (W : World) (cs : List Value) : Prop := ∃ (v : Ver) (A : Option Addr) (n c : Nat), cs = (verC v (.slice A n c)).toList ∧ n ≤ c ∧ c ≤ maxLen ∧ Reads W W.heap.size 2 A n (v.tabs.flatMap tc) ∧ (W64 v.log ∧ W64 v.next ∧ ∀ t ∈ v.tabs, W64 t.1) ∧ (W64 v.fl.1 ∧ W64 v.fl.2.1 ∧ W64 v.fl.2.2) ∧ (W64 v.fe.1 ∧ W64 v.fe.2.1 ∧ W64 v.fe.2.2) ∧ W64 v.se.1 ∧ W64 v.se.2.1 ∧ W64 v.se.2.2
theorem opens_ver {t ti tl ts tb : TypeId} {f0 f1 f2 f3 f4 f5 f6 : Field} (hs : P.underlying t = some (.struct #[f0, f1, f2, f3, f4, f5, f6])) (e0 : f0.type = ti ∧ f0.offset = 0) (e1 : f1.type = ti ∧ f1.offset = 1) (e2 : f2.type = tl ∧ f2.offset = 2)
    (e3 : f3.type = ts ∧ f3.offset = 3) (e4 : f4.type = ts ∧ f4.offset = 6) (e5 : f5.type = ts ∧ f5.offset = 9) (e6 : f6.type = tb ∧ f6.offset = 12)
    (hi : P.underlying ti = some (.int .i64)) (hb : P.underlying tb = some .bool) (ci : P.cellsOf ti = 1) (cb : P.cellsOf tb = 1) (cl : P.cellsOf tl = 1) (cs3 : P.cellsOf ts = 3) (ct : P.cellsOf t = 13)
    (os : Opens enc P W ts R3) (ol : Opens enc P W tl (SliceR W 2 RT)) : Opens enc P W t (VerR W) := by
  refine (opens_struct [RI, RI, SliceR W 2 RT, R3, R3, R3, RB] hs (fun i f R hf hR => ?_)).mono ?_
  · match i, hf, hR with
    | 0, hf, hR => simp at hf hR; subst hf hR; rw [e0.1]; exact opens_i hi
    | 1, hf, hR => simp at hf hR; subst hf hR; rw [e1.1]; exact opens_i hi
    | 2, hf, hR => simp at hf hR; subst hf hR; rw [e2.1]; exact ol
    | 3, hf, hR => simp at hf hR; subst hf hR; rw [e3.1]; exact os
    | 4, hf, hR => simp at hf hR; subst hf hR; rw [e4.1]; exact os
    | 5, hf, hR => simp at hf hR; subst hf hR; rw [e5.1]; exact os
    | 6, hf, hR => simp at hf hR; subst hf hR; rw [e6.1]; exact opens_bool hb
    | i + 7, hf, _ => simp at hf
  · rintro cs ⟨hl, hq⟩
    rw [ct] at hl
    obtain ⟨x0, x1, x2, x3, x4, x5, x6, x7, x8, x9, x10, x11, x12, rfl⟩ := thirteen_ cs hl
    have q0 := hq 0 f0 _ rfl rfl
    have q1 := hq 1 f1 _ rfl rfl
    have q2 := hq 2 f2 _ rfl rfl
    have q3 := hq 3 f3 _ rfl rfl
    have q4 := hq 4 f4 _ rfl rfl
    have q5 := hq 5 f5 _ rfl rfl
    have q6 := hq 6 f6 _ rfl rfl
    rw [e0.1, e0.2, ci] at q0
    rw [e1.1, e1.2, ci] at q1
    rw [e2.1, e2.2, cl] at q2
    rw [e3.1, e3.2, cs3] at q3
    rw [e4.1, e4.2, cs3] at q4
    rw [e5.1, e5.2, cs3] at q5
    rw [e6.1, e6.2, cb] at q6
    obtain ⟨a, h0, w0⟩ := q0
    obtain ⟨b, h1, w1⟩ := q1
    obtain ⟨A, n, c, xs, h2, i1, i2, _, i4, i5, i6⟩ := q2
    obtain ⟨s0, s1, s2, h3, u3⟩ := q3
    obtain ⟨t0, t1, t2, h4, u4⟩ := q4
    obtain ⟨r0, r1, r2, h5, u5⟩ := q5
    obtain ⟨q, h6⟩ := q6
    obtain ⟨ys, rfl, hy⟩ := list_choice (f := tc) (Q := fun t => W64 t.1) xs i5
    simp at h0 h1 h2 h3 h4 h5 h6
    obtain ⟨rfl, rfl, rfl⟩ := h3
    obtain ⟨rfl, rfl, rfl⟩ := h4
    obtain ⟨rfl, rfl, rfl⟩ := h5
    subst h0 h1 h2 h6
    exact ⟨⟨a, b, ys, (s0, s1, s2), (t0, t1, t2), (r0, r1, r2), q⟩, A, n, c, rfl, i1, i2, i6, ⟨w0, w1, hy⟩, u3, u4, u5⟩
end

set_option maxRecDepth 100000 in
theorem open_ver {H : Type} {enc : TypeId × Value → H} {W : World} {r : Reach} {base : Nat} {v : Value} {d : DataW H} {p : List MemPlace} (hv : Value.okWide Try.prog W r base 26 v) (h : DataW.Trod enc Try.prog W 0 (fun _ => true) true 26 v d p) :
    ∃ (x : Ver) (A : Option Addr) (n c : Nat), v = .agg (verC x (.slice A n c)) ∧ n ≤ c ∧ c ≤ maxLen ∧ Reads W W.heap.size 2 A n (x.tabs.flatMap tc) ∧ (W64 x.log ∧ W64 x.next ∧ ∀ t ∈ x.tabs, W64 t.1) ∧ (W64 x.fl.1 ∧ W64 x.fl.2.1 ∧ W64 x.fl.2.2) ∧ (W64 x.fe.1 ∧ W64 x.fe.2.1 ∧ W64 x.fe.2.2) ∧ W64 x.se.1 ∧ W64 x.se.2.1 ∧ W64 x.se.2.2 := by
  have os : Opens enc Try.prog W 24 R3 := opens_stamp Try.underlying24 ⟨rfl, rfl⟩ ⟨rfl, rfl⟩ ⟨rfl, rfl⟩ Try.underlying3 (by kernel_rfl) (by kernel_rfl)
  have ot : Opens enc Try.prog W 71 RT := opens_tab Try.underlying71 ⟨rfl, rfl⟩ ⟨rfl, rfl⟩ Try.underlying3 Try.underlying4 (by kernel_rfl) (by kernel_rfl) (by kernel_rfl)
  have ol : Opens enc Try.prog W 22 (SliceR W 2 RT) := opens_slice Try.underlying22 (by kernel_rfl) (by omega) ot
  have ov : Opens enc Try.prog W 26 (VerR W) := opens_ver Try.underlying26 ⟨rfl, rfl⟩ ⟨rfl, rfl⟩ ⟨rfl, rfl⟩ ⟨rfl, rfl⟩ ⟨rfl, rfl⟩ ⟨rfl, rfl⟩ ⟨rfl, rfl⟩ Try.underlying3 Try.underlying4 (by kernel_rfl) (by kernel_rfl) (by kernel_rfl) (by kernel_rfl) (by kernel_rfl) os ol
  obtain ⟨cs, rfl, _, x, A, n, c, hcs, q⟩ := top_struct Try.underlying26 ov hv h
  have e : cs = verC x (.slice A n c) := by
    cases cs
    simpa using congrArg List.toArray hcs
  subst e
  exact ⟨x, A, n, c, rfl, q⟩
end Go.Proofs.Ytedegdojbhegdaa
