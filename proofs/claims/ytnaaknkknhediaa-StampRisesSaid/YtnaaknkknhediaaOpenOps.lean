/- A slice of operations that came in, opened to five numbers each. -/
import Derived.Test.YtnaaknkknhediaaOpen
import Derived.Test.YtnaaknkknhediaaStampPlaysWalk
namespace Go.Proofs.Ytnaaknkknhediaa
open Go.RowKit Go.ChangeShapes Go.WideShapes Go.ChangeAt Go.Joins Go.Deep

section
variable {H : Type} {enc : TypeId × Value → H} {P : Program} {W : World}

theorem five_ {α : Type} (l : List α) (h : l.length = 5) : ∃ a b c d e, l = [a, b, c, d, e] := by
  match l, h with
  | [a, b, c, d, e], _ => exact ⟨a, b, c, d, e, rfl⟩

/-- One operation's cells. -/
theorem trod_op {t ti ts : TypeId} {f0 f1 f2 k0 k1 k2 : Field} {fuel : Nat} {cs : List Value} {x : DataW H × List MemPlace} (hs : P.underlying t = some (.struct #[f0, f1, f2]))
    (e0 : f0.type = ti ∧ f0.offset = 0) (e1 : f1.type = ti ∧ f1.offset = 1) (e2 : f2.type = ts ∧ f2.offset = 2) (hss : P.underlying ts = some (.struct #[k0, k1, k2]))
    (q0 : k0.type = ti ∧ k0.offset = 0) (q1 : k1.type = ti ∧ k1.offset = 1) (q2 : k2.type = ti ∧ k2.offset = 2) (hi : P.underlying ti = some (.int .i64)) (ci : P.cellsOf ti = 1) (cs3 : P.cellsOf ts = 3) (hl : cs.length = 5)
    (hf : DataW.trod enc P W 0 (fun _ => true) true fuel t cs = some x) : ∃ a b c d e : Int, cs = [.int .i64 a, .int .i64 b, .int .i64 c, .int .i64 d, .int .i64 e] := by
  obtain ⟨c0, c1, c2, c3, c4, rfl⟩ := five_ cs hl
  obtain ⟨xs, n, _, _, _, hlen, hg⟩ := DataW.trod_struct hs hf
  obtain ⟨y0, h0⟩ : ∃ y, xs[0]? = some y := ⟨_, List.getElem?_eq_getElem (by simp at hlen; omega)⟩
  obtain ⟨y1, h1⟩ : ∃ y, xs[1]? = some y := ⟨_, List.getElem?_eq_getElem (by simp at hlen; omega)⟩
  obtain ⟨y2, h2⟩ : ∃ y, xs[2]? = some y := ⟨_, List.getElem?_eq_getElem (by simp at hlen; omega)⟩
  have g0 := hg 0 f0 rfl
  have g1 := hg 1 f1 rfl
  have g2 := hg 2 f2 rfl
  rw [e0.1, e0.2, ci, h0] at g0
  rw [e1.1, e1.2, ci, h1] at g1
  rw [e2.1, e2.2, cs3, h2] at g2
  obtain ⟨a, r0, _, _⟩ := DataW.trod_int hi g0
  obtain ⟨b, r1, _, _⟩ := DataW.trod_int hi g1
  obtain ⟨zs, m, _, _, _, hzl, hz⟩ := DataW.trod_struct hss g2
  obtain ⟨z0, hz0⟩ : ∃ y, zs[0]? = some y := ⟨_, List.getElem?_eq_getElem (by simp at hzl; omega)⟩
  obtain ⟨z1, hz1⟩ : ∃ y, zs[1]? = some y := ⟨_, List.getElem?_eq_getElem (by simp at hzl; omega)⟩
  obtain ⟨z2, hz2⟩ : ∃ y, zs[2]? = some y := ⟨_, List.getElem?_eq_getElem (by simp at hzl; omega)⟩
  have w0 := hz 0 k0 rfl
  have w1 := hz 1 k1 rfl
  have w2 := hz 2 k2 rfl
  rw [q0.1, q0.2, ci, hz0] at w0
  rw [q1.1, q1.2, ci, hz1] at w1
  rw [q2.1, q2.2, ci, hz2] at w2
  obtain ⟨c, r2, _, _⟩ := DataW.trod_int hi w0
  obtain ⟨d, r3, _, _⟩ := DataW.trod_int hi w1
  obtain ⟨e, r4, _, _⟩ := DataW.trod_int hi w2
  simp at r0 r1 r2 r3 r4
  exact ⟨a, b, c, d, e, by rw [r0, r1, r2, r3, r4]⟩

theorem open_ops {r : Reach} {b0 : Nat} {tl t ti ts : TypeId} {f0 f1 f2 k0 k1 k2 : Field} {v : Value} {dd : DataW H} {p : List MemPlace} (ht : P.underlying tl = some (.slice t)) (c5 : P.cellsOf t = 5) (hs : P.underlying t = some (.struct #[f0, f1, f2]))
    (e0 : f0.type = ti ∧ f0.offset = 0) (e1 : f1.type = ti ∧ f1.offset = 1) (e2 : f2.type = ts ∧ f2.offset = 2) (hss : P.underlying ts = some (.struct #[k0, k1, k2]))
    (q0 : k0.type = ti ∧ k0.offset = 0) (q1 : k1.type = ti ∧ k1.offset = 1) (q2 : k2.type = ti ∧ k2.offset = 2) (hi : P.underlying ti = some (.int .i64)) (ci : P.cellsOf ti = 1) (cs3 : P.cellsOf ts = 3)
    (hv : Value.okWide P W r b0 tl v) (h : DataW.Trod enc P W 0 (fun _ => true) true tl v dd p) :
    ∃ (A : Option Addr) (n c : Nat), v = .slice A n c ∧ n ≤ c ∧ c ≤ maxLen ∧ Ops W W.heap.size A n := by
  obtain ⟨a0, len0, cap0, rfl⟩ := okWide_slice ht hv
  obtain ⟨fuel, hf⟩ := h
  rcases DataW.trod_slice ht hf with ⟨hcs, _⟩ | ⟨a, len, cap, elems, rest, n, _, hcs, _, hb, hl, hm, hlen, hel, _, _⟩
  · simp [Value.cells] at hcs
    obtain ⟨rfl, rfl, rfl⟩ := hcs
    exact ⟨none, 0, 0, rfl, Nat.le_refl _, by simp, fun i hi => absurd hi (by omega)⟩
  · simp [Value.cells] at hcs
    obtain ⟨rfl, rfl, rfl⟩ := hcs
    refine ⟨some a, len0, cap0, rfl, hl, hm, fun i hi' => ?_⟩
    have he := hel i hi'
    rw [List.getElem?_eq_getElem (by omega), Option.bind_eq_some_iff] at he
    obtain ⟨cs, hcells, htr⟩ := he
    rw [c5] at hcells
    obtain ⟨_, hl5, hget⟩ := World.cells?_some hcells
    obtain ⟨k, m, s0, s1, s2, rfl⟩ := trod_op hs e0 e1 e2 hss q0 q1 q2 hi ci cs3 hl5 htr
    have g0 := hget 0 (by omega)
    have g1 := hget 1 (by omega)
    have g2 := hget 2 (by omega)
    have g3 := hget 3 (by omega)
    have g4 := hget 4 (by omega)
    rw [add_of_add] at g0 g1 g2 g3 g4
    have hbl := World.block_lt_of_cell? W _ g0
    rw [block_of_add] at hbl
    obtain ⟨b, off, spot⟩ := a
    have hsp : spot = none := by
      have he9 := hel 0 (by omega)
      rw [List.getElem?_eq_getElem (by omega), Option.bind_eq_some_iff] at he9
      obtain ⟨cs9, hc9, _⟩ := he9
      rw [c5] at hc9
      obtain ⟨_, hl9, hg9⟩ := World.cells?_some hc9
      have h9 := hg9 0 (by omega)
      rw [List.getElem?_eq_getElem (by omega)] at h9
      simpa [Addr.add] using World.cell?_spot h9
    subst hsp
    rw [add_lit] at g0 g1 g2 g3 g4
    exact ⟨b, off, k, m, s0, s1, s2, rfl, hbl, by simpa using g0, by simpa [Nat.add_assoc] using g1, by simpa [Nat.add_assoc] using g2, by simpa [Nat.add_assoc] using g3, by simpa [Nat.add_assoc] using g4⟩
end
end Go.Proofs.Ytnaaknkknhediaa
