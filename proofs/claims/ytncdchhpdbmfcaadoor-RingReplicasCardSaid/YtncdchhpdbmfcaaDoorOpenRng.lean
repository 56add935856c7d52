/- A ring's shape (two numbers and texts), and two texts, that came in, opened to plain data. Nothing is assumed. -/
import Derived.Test.YtncdchhpdbmfcaaDoorOpenAny
import Derived.Test.YtncdchhpdbmfcaaDoorRngH
namespace Go.Proofs.YtncdchhpdbmfcaaDoor
open Go.RowKit Go.ChangeShapes Go.WideShapes Go.ChangeAt Go.Joins Go.Deep

section
variable {H : Type} {enc : TypeId × Value → H} {P : Program} {W : World}
def RIw (cs : List Value) : Prop := ∃ a : Int, cs = [.int .i64 a] ∧ (Lit.int .i64 a).wf = true
def RTx (cs : List Value) : Prop := ∃ s : ByteArray, cs = [.string s] ∧ s.size ≤ maxLen
def RSh (W : World) (cs : List Value) : Prop := ∃ (nodes copies : Int) (A : Option Addr) (n c : Nat) (K : List ByteArray), cs = [.int .i64 nodes, .int .i64 copies, .slice A n c] ∧ (Lit.int .i64 nodes).wf = true ∧ (Lit.int .i64 copies).wf = true ∧ n ≤ maxLen ∧ Reads W W.heap.size 1 A n (K.map Value.string) ∧ ∀ s ∈ K, s.size ≤ maxLen
theorem opens_sh {t ti tl ts : TypeId} {f0 f1 f2 : Field} (hs : P.underlying t = some (.struct #[f0, f1, f2])) (e0 : f0.type = ti ∧ f0.offset = 0) (e1 : f1.type = ti ∧ f1.offset = 1) (e2 : f2.type = tl ∧ f2.offset = 2)
    (hi : P.underlying ti = some (.int .i64)) (hl : P.underlying tl = some (.slice ts)) (hS : P.underlying ts = some .string) (ci : P.cellsOf ti = 1) (cl : P.cellsOf tl = 1) (cS : P.cellsOf ts = 1) (ct : P.cellsOf t = 3) : Opens enc P W t (RSh W) := by
  have oS : Opens enc P W ts RTx := opens_string hS
  refine (opens_struct [RIw, RIw, SliceR W 1 RTx] hs (fun i f R hf hR => ?_)).mono ?_
  · match i, hf, hR with
    | 0, hf, hR => simp at hf hR; subst hf hR; rw [e0.1]; exact opens_int hi
    | 1, hf, hR => simp at hf hR; subst hf hR; rw [e1.1]; exact opens_int hi
    | 2, hf, hR => simp at hf hR; subst hf hR; rw [e2.1]; exact opens_slice hl cS (by decide) oS
    | i + 3, hf, _ => simp at hf
  · rintro cs ⟨hl, hq⟩
    rw [ct] at hl
    obtain ⟨x, y, z, rfl⟩ : ∃ a b c, cs = [a, b, c] := by
      match cs, hl with
      | [a, b, c], _ => exact ⟨a, b, c, rfl⟩
    have q0 := hq 0 f0 _ rfl rfl
    have q1 := hq 1 f1 _ rfl rfl
    have q2 := hq 2 f2 _ rfl rfl
    rw [e0.1, e0.2, ci] at q0
    rw [e1.1, e1.2, ci] at q1
    rw [e2.1, e2.2, cl] at q2
    obtain ⟨a, h0, w0⟩ := q0
    obtain ⟨b, h1, w1⟩ := q1
    obtain ⟨A, n, c, xs, h2, i1, i2, i3, i4, i5, i6⟩ := q2
    obtain ⟨K, rfl, hK⟩ := list_choice (f := fun s => [Value.string s]) (Q := fun s => s.size ≤ maxLen) xs i5
    rw [flatten_one] at i6
    simp at h0 h1 h2
    subst h0 h1 h2
    exact ⟨a, b, A, n, c, K, rfl, w0, w1, Nat.le_trans i1 i2, i6, hK⟩
theorem trod_duo {t e : TypeId} {fuel : Nat} {c0 c1 : Value} {x : DataW H × List MemPlace} (ht : P.underlying t = some (.array 2 e)) (hce : P.cellsOf e = 1)
    (h : DataW.trod enc P W 0 (fun _ => true) true fuel t [c0, c1] = some x) :
    ∃ y0 y1 n, x.1 = .agg [y0.1, y1.1] ∧ DataW.trod enc P W 0 (fun _ => true) true n e [c0] = some y0 ∧ DataW.trod enc P W 0 (fun _ => true) true n e [c1] = some y1 := by
  cases fuel with
  | zero => simp [DataW.trod] at h
  | succ n =>
    unfold DataW.trod at h
    rw [ht] at h
    have r2 : List.range 2 = [0, 1] := rfl
    simp [r2, hce] at h
    obtain ⟨_, h⟩ := h
    cases h0 : DataW.trod enc P W 0 (fun _ => true) true n e [c0] with
    | none => simp [h0] at h
    | some y0 =>
      cases h1 : DataW.trod enc P W 0 (fun _ => true) true n e [c1] with
      | none => simp [h0, h1] at h
      | some y1 =>
        simp [h0, h1] at h
        exact ⟨y0, y1, n, by rw [← h], h0, h1⟩
theorem okWide_arr {r : Reach} {base : Nat} {t e : TypeId} {v : Value} {n : Nat} (ht : P.underlying t = some (.array n e)) (h : Value.okWide P W r base t v) : ∃ cs, v = .agg cs ∧ cs.size = P.cellsOf t := by
  simp only [Value.okWide, ht] at h
  obtain ⟨cs, h1, h2, _⟩ := h
  exact ⟨cs, h1, h2⟩
theorem open_duo {r : Reach} {b0 : Nat} {t ts : TypeId} {v : Value} {d : DataW H} {p : List MemPlace} (ht : P.underlying t = some (.array 2 ts)) (hs : P.underlying ts = some .string) (hC : P.cellsOf t = 2) (hc : P.cellsOf ts = 1)
    (hv : Value.okWide P W r b0 t v) (h : DataW.Trod enc P W 0 (fun _ => true) true t v d p) :
    ∃ s0 s1 : ByteArray, v = argK s0 s1 ∧ d = .agg [.lit (.string s0.data.toList), .lit (.string s1.data.toList)] ∧ s0.size ≤ maxLen ∧ s1.size ≤ maxLen := by
  obtain ⟨cs, rfl, hsz⟩ := okWide_arr ht hv
  obtain ⟨l⟩ := cs
  rw [hC] at hsz
  obtain ⟨c0, c1, rfl⟩ : ∃ a b, l = [a, b] := by
    match l, hsz with
    | [a, b], _ => exact ⟨a, b, rfl⟩
  obtain ⟨fuel, hf⟩ := h
  obtain ⟨y0, y1, n, hd, h0, h1⟩ := trod_duo ht hc (by simpa [Value.cells] using hf)
  obtain ⟨s0, e0, f0, w0⟩ := DataW.trod_string hs h0
  obtain ⟨s1, e1, f1, w1⟩ := DataW.trod_string hs h1
  simp at e0 e1
  subst e0 e1
  refine ⟨s0, s1, rfl, ?_, w0, w1⟩
  rw [f0, f1] at hd
  exact hd
end
set_option maxRecDepth 100000 in
theorem opens_shape {H : Type} {enc : TypeId × Value → H} {W : World} : Opens enc Tryd.prog W 24 (RSh W) :=
  opens_sh Tryd.underlying24 ⟨rfl, rfl⟩ ⟨rfl, rfl⟩ ⟨rfl, rfl⟩ Tryd.underlying3 Tryd.underlying22 Tryd.underlying9 (by kernel_rfl) (by kernel_rfl) (by kernel_rfl) (by kernel_rfl)
set_option maxRecDepth 100000 in
theorem open_shape {H : Type} {enc : TypeId × Value → H} {W : World} {r : Reach} {base : Nat} {v : Value} {d : DataW H} {p : List MemPlace} (hv : Value.okWide Tryd.prog W r base 24 v) (h : DataW.Trod enc Tryd.prog W 0 (fun _ => true) true 24 v d p) :
    ∃ (nodes copies : Int) (A : Option Addr) (n c : Nat) (K : List ByteArray), v = argS nodes copies A n c ∧ (Lit.int .i64 nodes).wf = true ∧ (Lit.int .i64 copies).wf = true ∧ n ≤ maxLen ∧ Reads W W.heap.size 1 A n (K.map Value.string) ∧ ∀ s ∈ K, s.size ≤ maxLen := by
  obtain ⟨cs, rfl, _, a, b, A, n, c, K, hcs, q⟩ := top_struct Tryd.underlying24 opens_shape hv h
  obtain ⟨l⟩ := cs
  have hq : l = [.int .i64 a, .int .i64 b, .slice A n c] := hcs
  subst hq
  exact ⟨a, b, A, n, c, K, rfl, q⟩
end Go.Proofs.YtncdchhpdbmfcaaDoor
