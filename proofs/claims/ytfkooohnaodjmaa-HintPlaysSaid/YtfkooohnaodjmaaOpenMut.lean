/- A mutation that came in, opened to plain data; a row of mutations likewise. Nothing is assumed. -/
import Derived.Test.YtfkooohnaodjmaaOpenAny
import Derived.Test.YtfkooohnaodjmaaMutE
namespace Go.Proofs.Ytfkooohnaodjmaa
open Go.RowKit Go.ChangeShapes Go.WideShapes Go.ChangeAt Go.Joins Go.Deep

/-- A number of 64 bits. -/
def W64 (a : Int) : Prop := -9223372036854775808 ≤ a ∧ a ≤ 9223372036854775807
theorem w64_of {a : Int} (h : (Lit.int .i64 a).wf = true) : W64 a := by
  have : -9223372036854775808 ≤ a ∧ a ≤ 9223372036854775807 := by simpa [Lit.wf, IntKind.min, IntKind.max, IntKind.signed, IntKind.bits] using h
  exact this

section
variable {H : Type} {enc : TypeId × Value → H} {P : Program} {W : World}
theorem two_ {α : Type} (l : List α) (h : l.length = 2) : ∃ a b, l = [a, b] := by
  match l, h with
  | [a, b], _ => exact ⟨a, b, rfl⟩
theorem three_ {α : Type} (l : List α) (h : l.length = 3) : ∃ a b c, l = [a, b, c] := by
  match l, h with
  | [a, b, c], _ => exact ⟨a, b, c, rfl⟩
def RI (cs : List Value) : Prop := ∃ a : Int, cs = [.int .i64 a] ∧ W64 a
def RB (cs : List Value) : Prop := ∃ b : Bool, cs = [.bool b]
def R3 (cs : List Value) : Prop := ∃ a b c : Int, cs = [.int .i64 a, .int .i64 b, .int .i64 c] ∧ W64 a ∧ W64 b ∧ W64 c
theorem opens_i {t : TypeId} (ht : P.underlying t = some (.int .i64)) : Opens enc P W t RI := (opens_int ht).mono fun _ ⟨a, h, hw⟩ => ⟨a, h, w64_of hw⟩
theorem opens_stamp {t ti : TypeId} {f0 f1 f2 : Field} (hs : P.underlying t = some (.struct #[f0, f1, f2])) (e0 : f0.type = ti ∧ f0.offset = 0) (e1 : f1.type = ti ∧ f1.offset = 1) (e2 : f2.type = ti ∧ f2.offset = 2)
    (hi : P.underlying ti = some (.int .i64)) (ci : P.cellsOf ti = 1) (ct : P.cellsOf t = 3) : Opens enc P W t R3 := by
  refine (opens_struct [RI, RI, RI] hs (fun i f R hf hR => ?_)).mono ?_
  · match i, hf, hR with
    | 0, hf, hR => simp at hf hR; subst hf hR; rw [e0.1]; exact opens_i hi
    | 1, hf, hR => simp at hf hR; subst hf hR; rw [e1.1]; exact opens_i hi
    | 2, hf, hR => simp at hf hR; subst hf hR; rw [e2.1]; exact opens_i hi
    | i + 3, hf, _ => simp at hf
  · rintro cs ⟨hl, hq⟩
    rw [ct] at hl
    obtain ⟨x, y, z, rfl⟩ := three_ cs hl
    have q0 := hq 0 f0 _ rfl rfl
    have q1 := hq 1 f1 _ rfl rfl
    have q2 := hq 2 f2 _ rfl rfl
    rw [e0.1, e0.2, ci] at q0
    rw [e1.1, e1.2, ci] at q1
    rw [e2.1, e2.2, ci] at q2
    obtain ⟨a, h0, w0⟩ := q0
    obtain ⟨b, h1, w1⟩ := q1
    obtain ⟨c, h2, w2⟩ := q2
    simp at h0 h1 h2
    subst h0 h1 h2
    exact ⟨a, b, c, rfl, w0, w1, w2⟩

theorem ten_ {α : Type} (l : List α) (h : l.length = 10) : ∃ a b c d e f g i j k, l = [a, b, c, d, e, f, g, i, j, k] := by
  match l, h with
  | [a, b, c, d, e, f, g, i, j, k], _ => exact ⟨a, b, c, d, e, f, g, i, j, k, rfl⟩
def RS (cs : List Value) : Prop := ∃ s : ByteArray, cs = [.string s] ∧ s.size ≤ maxLen
def W3 (t : Int × Int × Int) : Prop := W64 t.1 ∧ W64 t.2.1 ∧ W64 t.2.2
def RSt (cs : List Value) : Prop := ∃ t : Int × Int × Int, cs = sc t ∧ W3 t
/-- The numbers of a mutation are of 64 bits, its texts not too long. -/
def MutW (m : Mut) : Prop := (W64 m.tab ∧ W64 m.kind ∧ W64 m.exp ∧ W3 m.at_ ∧ ∀ t ∈ m.ov, W3 t) ∧ m.key.size ≤ maxLen ∧ m.en.size ≤ maxLen ∧ m.val.size ≤ maxLen
/-- What a mutation that came in is. -/
def MutR (W : World) (cs : List Value) : Prop := ∃ (m : Mut) (A : Option Addr) (n c : Nat), cs = (mutC m (.slice A n c)).toList ∧ n ≤ c ∧ c ≤ maxLen ∧ (A = none → c = 0) ∧ Reads W W.heap.size 3 A n (m.ov.flatMap sc) ∧ MutW m
theorem opens_mut {t ta tk ti ts tS tl : TypeId} {f0 f1 f2 f3 f4 f5 f6 f7 : Field} (hs : P.underlying t = some (.struct #[f0, f1, f2, f3, f4, f5, f6, f7])) (e0 : f0.type = ta ∧ f0.offset = 0) (e1 : f1.type = tk ∧ f1.offset = 1) (e2 : f2.type = tS ∧ f2.offset = 2)
    (e3 : f3.type = tS ∧ f3.offset = 3) (e4 : f4.type = tS ∧ f4.offset = 4) (e5 : f5.type = ti ∧ f5.offset = 5) (e6 : f6.type = ts ∧ f6.offset = 6) (e7 : f7.type = tl ∧ f7.offset = 9)
    (ha : P.underlying ta = some (.int .i64)) (hk : P.underlying tk = some (.int .i64)) (hi : P.underlying ti = some (.int .i64)) (hS : P.underlying tS = some .string)
    (ca : P.cellsOf ta = 1) (ck : P.cellsOf tk = 1) (ci : P.cellsOf ti = 1) (cS : P.cellsOf tS = 1) (cs3 : P.cellsOf ts = 3) (cl : P.cellsOf tl = 1) (ct : P.cellsOf t = 10)
    (os : Opens enc P W ts R3) (ol : Opens enc P W tl (SliceR W 3 RSt)) : Opens enc P W t (MutR W) := by
  refine (opens_struct [RI, RI, RS, RS, RS, RI, R3, SliceR W 3 RSt] hs (fun i f R hf hR => ?_)).mono ?_
  · match i, hf, hR with
    | 0, hf, hR => simp at hf hR; subst hf hR; rw [e0.1]; exact opens_i ha
    | 1, hf, hR => simp at hf hR; subst hf hR; rw [e1.1]; exact opens_i hk
    | 2, hf, hR => simp at hf hR; subst hf hR; rw [e2.1]; exact opens_string hS
    | 3, hf, hR => simp at hf hR; subst hf hR; rw [e3.1]; exact opens_string hS
    | 4, hf, hR => simp at hf hR; subst hf hR; rw [e4.1]; exact opens_string hS
    | 5, hf, hR => simp at hf hR; subst hf hR; rw [e5.1]; exact opens_i hi
    | 6, hf, hR => simp at hf hR; subst hf hR; rw [e6.1]; exact os
    | 7, hf, hR => simp at hf hR; subst hf hR; rw [e7.1]; exact ol
    | i + 8, hf, _ => simp at hf
  · rintro cs ⟨hl, hq⟩
    rw [ct] at hl
    obtain ⟨x0, x1, x2, x3, x4, x5, x6, x7, x8, x9, rfl⟩ := ten_ cs hl
    have q0 := hq 0 f0 _ rfl rfl
    have q1 := hq 1 f1 _ rfl rfl
    have q2 := hq 2 f2 _ rfl rfl
    have q3 := hq 3 f3 _ rfl rfl
    have q4 := hq 4 f4 _ rfl rfl
    have q5 := hq 5 f5 _ rfl rfl
    have q6 := hq 6 f6 _ rfl rfl
    have q7 := hq 7 f7 _ rfl rfl
    rw [e0.1, e0.2, ca] at q0
    rw [e1.1, e1.2, ck] at q1
    rw [e2.1, e2.2, cS] at q2
    rw [e3.1, e3.2, cS] at q3
    rw [e4.1, e4.2, cS] at q4
    rw [e5.1, e5.2, ci] at q5
    rw [e6.1, e6.2, cs3] at q6
    rw [e7.1, e7.2, cl] at q7
    obtain ⟨a, h0, w0⟩ := q0
    obtain ⟨b, h1, w1⟩ := q1
    obtain ⟨s2, h2, w2⟩ := q2
    obtain ⟨s3, h3, w3⟩ := q3
    obtain ⟨s4, h4, w4⟩ := q4
    obtain ⟨ex, h5, w5⟩ := q5
    obtain ⟨t0, t1, t2, h6, u6⟩ := q6
    obtain ⟨A, n, c, xs, h7, i1, i2, i3, i4, i5, i6⟩ := q7
    obtain ⟨ys, rfl, hy⟩ := list_choice (f := sc) (Q := W3) xs i5
    simp at h0 h1 h2 h3 h4 h5 h6 h7
    obtain ⟨rfl, rfl, rfl⟩ := h6
    subst h0 h1 h2 h3 h4 h5 h7
    exact ⟨⟨a, b, s2, s3, s4, ex, (t0, t1, t2), ys⟩, A, n, c, rfl, i1, i2, i3, i6, ⟨w0, w1, w5, u6, hy⟩, w2, w3, w4⟩
end

set_option maxRecDepth 100000 in
theorem opens_apiMut {H : Type} {enc : TypeId × Value → H} {W : World} : Opens enc Try.prog W 33 (MutR W) := by
  have os : Opens enc Try.prog W 30 R3 := opens_stamp Try.underlying30 ⟨rfl, rfl⟩ ⟨rfl, rfl⟩ ⟨rfl, rfl⟩ Try.underlying3 (by kernel_rfl) (by kernel_rfl)
  have ot : Opens enc Try.prog W 30 RSt := os.mono fun cs ⟨a, b, c, h, w⟩ => ⟨(a, b, c), h, w⟩
  have ol : Opens enc Try.prog W 31 (SliceR W 3 RSt) := opens_slice Try.underlying31 (by kernel_rfl) (by omega) ot
  exact opens_mut Try.underlying33 ⟨rfl, rfl⟩ ⟨rfl, rfl⟩ ⟨rfl, rfl⟩ ⟨rfl, rfl⟩ ⟨rfl, rfl⟩ ⟨rfl, rfl⟩ ⟨rfl, rfl⟩ ⟨rfl, rfl⟩ Try.underlying27 Try.underlying28 Try.underlying3 Try.underlying9 (by kernel_rfl) (by kernel_rfl) (by kernel_rfl) (by kernel_rfl) (by kernel_rfl) (by kernel_rfl) (by kernel_rfl) os ol
set_option maxRecDepth 100000 in
theorem open_mut {H : Type} {enc : TypeId × Value → H} {W : World} {r : Reach} {base : Nat} {v : Value} {d : DataW H} {p : List MemPlace} (hv : Value.okWide Try.prog W r base 33 v) (h : DataW.Trod enc Try.prog W 0 (fun _ => true) true 33 v d p) :
    ∃ (m : Mut) (A : Option Addr) (n c : Nat), v = .agg (mutC m (.slice A n c)) ∧ n ≤ c ∧ c ≤ maxLen ∧ (A = none → c = 0) ∧ Reads W W.heap.size 3 A n (m.ov.flatMap sc) ∧ MutW m := by
  obtain ⟨cs, rfl, _, x, A, n, c, hcs, q⟩ := top_struct Try.underlying33 opens_apiMut hv h
  have e : cs = mutC x (.slice A n c) := by
    cases cs
    simpa using congrArg List.toArray hcs
  subst e
  exact ⟨x, A, n, c, rfl, q⟩
/-- What a mutation of a row that came in is. -/
def MutQ (W : World) (e : MutS) : Prop := e.n ≤ e.c ∧ e.c ≤ maxLen ∧ (e.A = none → e.c = 0) ∧ Reads W W.heap.size 3 e.A e.n (e.m.ov.flatMap sc) ∧ MutW e.m
set_option maxRecDepth 100000 in
theorem open_muts {H : Type} {enc : TypeId × Value → H} {W : World} {r : Reach} {base : Nat} {v : Value} {d : DataW H} {p : List MemPlace} (hv : Value.okWide Try.prog W r base 40 v) (h : DataW.Trod enc Try.prog W 0 (fun _ => true) true 40 v d p) :
    ∃ (A : Option Addr) (n c : Nat) (L : List MutS), v = .slice A n c ∧ n ≤ c ∧ c ≤ maxLen ∧ (A = none → c = 0) ∧ L.length = n ∧ (∀ e ∈ L, MutQ W e) ∧ Reads W W.heap.size 10 A n (L.flatMap mutL) := by
  obtain ⟨A, n, c, xs, rfl, h1, h2, h3, h4, h5, h6⟩ := top_slice (s := 10) Try.underlying40 (by kernel_rfl) (by decide) opens_apiMut hv h
  obtain ⟨L, rfl, hL⟩ := list_choice (f := mutL) (Q := MutQ W) xs (fun x hx => by
    obtain ⟨m, A', n', c', hx, q⟩ := h5 x hx
    exact ⟨⟨m, A', n', c'⟩, hx, q⟩)
  rw [← List.flatMap_def] at h6
  exact ⟨A, n, c, L, rfl, h1, h2, h3, by simpa using h4, hL, h6⟩
end Go.Proofs.Ytfkooohnaodjmaa
