/- Arguments opened to plain data: slices of bytes, of integers, of strings; three integers by value. No program is named here, and nothing is assumed. -/
import Derived.Test.YtimmfcbpdnlfjaaDoorWords
import Derived.OpenShut
import Derived.ShutString
import Derived.ChangeOld
import Derived.Lib.SmallJoins
namespace Go.Proofs.YtimmfcbpdnlfjaaDoor
open Go.RowKit Go.ChangeShapes Go.WideShapes Go.ChangeAt Go.Joins Go.Deep

section
variable {H : Type} {enc : TypeId × Value → H} {P : Program} {W : World}

theorem open_ints_list {k : IntKind} {r : Reach} {base : Nat} {t e : TypeId} {v : Value} {d : DataW H} {p : List MemPlace} (ht : P.underlying t = some (.slice e)) (he : P.underlying e = some (.int k)) (hc : P.cellsOf e = 1)
    (hv : Value.okWide P W r base t v) (h : DataW.Trod enc P W 0 (fun _ => true) true t v d p) :
    ∃ (A : Option Addr) (n c : Nat) (l : List Int), v = .slice A n c ∧ n ≤ c ∧ c ≤ maxLen ∧ l.length = n ∧ Reads W W.heap.size 1 A n (l.map (Value.int k)) ∧ (∀ x ∈ l, (Lit.int k x).wf = true) ∧ (A = none → c = 0) := by
  obtain ⟨a0, len0, cap0, rfl⟩ := okWide_slice ht hv
  obtain ⟨fuel, hf⟩ := h
  rcases open_ints ht he hc hf with ⟨hcs, _⟩ | ⟨x, l, c, zs, hcs, _, hl, hm, hz, _, hcell, hwz⟩
  · simp [Value.cells] at hcs
    obtain ⟨rfl, rfl, rfl⟩ := hcs
    exact ⟨none, 0, 0, [], rfl, Nat.le_refl _, by simp, rfl, Reads.none_, by simp, fun _ => rfl⟩
  · simp [Value.cells] at hcs
    obtain ⟨rfl, rfl, rfl⟩ := hcs
    have hz' : zs.length = cap0 := by simpa using hz
    refine ⟨some x, len0, cap0, zs.take len0, rfl, hl, hm, by simp; omega, ⟨by simp; omega, fun hn => ⟨x, rfl, ?_, ?_⟩⟩, fun y hy => hwz y (List.mem_of_mem_take hy), fun h => by cases h⟩
    · have h0 := World.block_lt_of_cell? W _ (hcell 0 (by omega))
      rwa [block_of_add] at h0
    · intro j u hu
      obtain ⟨z, hz1, hz2⟩ := (List.getElem?_map (f := Value.int k) (l := zs.take len0) (i := j)) ▸ hu |> Option.map_eq_some_iff.1
      have hj := (List.getElem?_eq_some_iff.1 hz1).1
      have hjl : j < zs.length := by simp at hj; omega
      rw [hcell j hjl, ← hz2]
      rw [List.getElem?_take] at hz1
      split at hz1
      · rw [List.getD_eq_getElem?_getD, hz1]; rfl
      · cases hz1

theorem bytes_of_ints : ∀ (l : List Int), (∀ x ∈ l, (Lit.int .u8 x).wf = true) → ∃ b : List UInt8, b.length = l.length ∧ l.map (Value.int .u8) = b.map vb
  | [], _ => ⟨[], rfl, rfl⟩
  | x :: l, h => by
    obtain ⟨b, hb, he⟩ := bytes_of_ints l (fun y hy => h y (List.mem_cons_of_mem _ hy))
    have hx := h x List.mem_cons_self
    have hr : 0 ≤ x ∧ x ≤ 255 := by simpa [Lit.wf] using bounds_u8 hx
    refine ⟨UInt8.ofNat x.toNat :: b, by simp [hb], ?_⟩
    simp only [List.map_cons, he, vb]
    congr 2
    rw [UInt8.toNat_ofNat']
    omega

theorem open_bytes_list {r : Reach} {base : Nat} {t e : TypeId} {v : Value} {d : DataW H} {p : List MemPlace} (ht : P.underlying t = some (.slice e)) (he : P.underlying e = some (.int .u8)) (hc : P.cellsOf e = 1)
    (hv : Value.okWide P W r base t v) (h : DataW.Trod enc P W 0 (fun _ => true) true t v d p) :
    ∃ (A : Option Addr) (n c : Nat) (l : List UInt8), v = .slice A n c ∧ n ≤ c ∧ c ≤ maxLen ∧ l.length = n ∧ Reads W W.heap.size 1 A n (l.map vb) ∧ (A = none → c = 0) := by
  obtain ⟨A, n, c, l, rfl, h1, h2, h3, h4, h5, h6⟩ := open_ints_list ht he hc hv h
  obtain ⟨b, hb, hmap⟩ := bytes_of_ints l h5
  exact ⟨A, n, c, b, rfl, h1, h2, by omega, hmap ▸ h4, h6⟩

theorem open_three {r : Reach} {b0 : Nat} {t e : TypeId} {f0 f1 f2 : Field} {v : Value} {d : DataW H} {p : List MemPlace} (hs : P.underlying t = some (.struct #[f0, f1, f2])) (hone : oneCellFields P #[f0, f1, f2] = true) (hC : P.cellsOf t = 3)
    (e0 : f0.type = e) (e1 : f1.type = e) (e2 : f2.type = e) (he : P.underlying e = some (.int .i64))
    (hv : Value.okWide P W r b0 t v) (h : DataW.Trod enc P W 0 (fun _ => true) true t v d p) :
    ∃ a b c : Int, v = .agg #[.int .i64 a, .int .i64 b, .int .i64 c] ∧ (Lit.int .i64 a).wf = true ∧ (Lit.int .i64 b).wf = true ∧ (Lit.int .i64 c).wf = true := by
  obtain ⟨c0, c1, c2, y0, y1, y2, m, rfl, rfl, rfl, h0, h1, h2⟩ := open_agg3 hs hone hC hv h
  rw [e0] at h0
  rw [e1] at h1
  rw [e2] at h2
  obtain ⟨a, q0, _, w0⟩ := DataW.trod_int he h0
  obtain ⟨b, q1, _, w1⟩ := DataW.trod_int he h1
  obtain ⟨c, q2, _, w2⟩ := DataW.trod_int he h2
  simp at q0 q1 q2
  exact ⟨a, b, c, by rw [q0, q1, q2], w0, w1, w2⟩
end
end Go.Proofs.YtimmfcbpdnlfjaaDoor
