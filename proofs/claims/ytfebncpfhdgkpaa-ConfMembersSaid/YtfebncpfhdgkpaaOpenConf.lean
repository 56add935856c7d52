/- A configuration that came in, opened to its number, its five bits and its five numbers. No program is named here. -/
import Derived.Test.YtfebncpfhdgkpaaOpen
namespace Go.Proofs.Ytfebncpfhdgkpaa
open Go.RowKit Go.ChangeShapes Go.WideShapes Go.ChangeAt Go.Joins Go.Deep

section
variable {H : Type} {enc : TypeId × Value → H} {P : Program} {W : World}

theorem eleven {α : Type} (l : List α) (h : l.length = 11) : ∃ c0 c1 c2 c3 c4 c5 c6 c7 c8 c9 c10, l = [c0, c1, c2, c3, c4, c5, c6, c7, c8, c9, c10] := by
  match l, h with
  | [c0, c1, c2, c3, c4, c5, c6, c7, c8, c9, c10], _ => exact ⟨c0, c1, c2, c3, c4, c5, c6, c7, c8, c9, c10, rfl⟩

theorem open_conf {r : Reach} {b0 : Nat} {t ti tb ai ab : TypeId} {f0 f1 f2 : Field} {v : Value} {d : DataW H} {p : List MemPlace} (hs : P.underlying t = some (.struct #[f0, f1, f2])) (hC : P.cellsOf t = 11)
    (e0 : f0.type = ti ∧ f0.offset = 0) (e1 : f1.type = ab ∧ f1.offset = 1) (e2 : f2.type = ai ∧ f2.offset = 6) (hi : P.underlying ti = some (.int .i64)) (hb : P.underlying tb = some .bool)
    (hai : P.underlying ai = some (.array 5 ti)) (hab : P.underlying ab = some (.array 5 tb)) (ci : P.cellsOf ti = 1) (cb : P.cellsOf tb = 1) (cai : P.cellsOf ai = 5) (cab : P.cellsOf ab = 5)
    (hv : Value.okWide P W r b0 t v) (h : DataW.Trod enc P W 0 (fun _ => true) true t v d p) :
    ∃ (e : Int) (o0 o1 o2 o3 o4 : Bool) (j0 j1 j2 j3 j4 : Int), v = .agg #[.int .i64 e, .bool o0, .bool o1, .bool o2, .bool o3, .bool o4, .int .i64 j0, .int .i64 j1, .int .i64 j2, .int .i64 j3, .int .i64 j4] ∧ (Lit.int .i64 e).wf = true ∧
      ((Lit.int .i64 j0).wf = true ∧ (Lit.int .i64 j1).wf = true ∧ (Lit.int .i64 j2).wf = true ∧ (Lit.int .i64 j3).wf = true ∧ (Lit.int .i64 j4).wf = true) := by
  obtain ⟨cs, rfl, hsz⟩ := okWide_struct hs hv
  obtain ⟨l⟩ := cs
  obtain ⟨c0, c1, c2, c3, c4, c5, c6, c7, c8, c9, c10, rfl⟩ := eleven l (hsz.trans hC)
  obtain ⟨fuel, hf⟩ := h
  obtain ⟨xs, n, _, _, _, hlen, hg⟩ := DataW.trod_struct hs hf
  obtain ⟨y0, h0⟩ : ∃ y, xs[0]? = some y := ⟨_, List.getElem?_eq_getElem (by simp at hlen; omega)⟩
  obtain ⟨y1, h1⟩ : ∃ y, xs[1]? = some y := ⟨_, List.getElem?_eq_getElem (by simp at hlen; omega)⟩
  obtain ⟨y2, h2⟩ : ∃ y, xs[2]? = some y := ⟨_, List.getElem?_eq_getElem (by simp at hlen; omega)⟩
  have g0 := hg 0 f0 rfl
  have g1 := hg 1 f1 rfl
  have g2 := hg 2 f2 rfl
  rw [e0.1, e0.2, ci, h0] at g0
  rw [e1.1, e1.2, cab, h1] at g1
  rw [e2.1, e2.2, cai, h2] at g2
  obtain ⟨e, q0, _, w0⟩ := DataW.trod_int hi g0
  obtain ⟨zs, m, _, _, _, hzl, hz⟩ := DataW.trod_array hab g1
  obtain ⟨us, k, _, _, _, hul, hu⟩ := DataW.trod_array hai g2
  rw [cb] at hz
  rw [ci] at hu
  obtain ⟨z0, hz0⟩ : ∃ y, zs[0]? = some y := ⟨_, List.getElem?_eq_getElem (by omega)⟩
  obtain ⟨o0, p0, _⟩ := DataW.trod_bool hb ((hz 0 (by omega)).trans hz0)
  obtain ⟨u0, hu0⟩ : ∃ y, us[0]? = some y := ⟨_, List.getElem?_eq_getElem (by omega)⟩
  obtain ⟨j0, r0, _, wj0⟩ := DataW.trod_int hi ((hu 0 (by omega)).trans hu0)
  obtain ⟨z1, hz1⟩ : ∃ y, zs[1]? = some y := ⟨_, List.getElem?_eq_getElem (by omega)⟩
  obtain ⟨o1, p1, _⟩ := DataW.trod_bool hb ((hz 1 (by omega)).trans hz1)
  obtain ⟨u1, hu1⟩ : ∃ y, us[1]? = some y := ⟨_, List.getElem?_eq_getElem (by omega)⟩
  obtain ⟨j1, r1, _, wj1⟩ := DataW.trod_int hi ((hu 1 (by omega)).trans hu1)
  obtain ⟨z2, hz2⟩ : ∃ y, zs[2]? = some y := ⟨_, List.getElem?_eq_getElem (by omega)⟩
  obtain ⟨o2, p2, _⟩ := DataW.trod_bool hb ((hz 2 (by omega)).trans hz2)
  obtain ⟨u2, hu2⟩ : ∃ y, us[2]? = some y := ⟨_, List.getElem?_eq_getElem (by omega)⟩
  obtain ⟨j2, r2, _, wj2⟩ := DataW.trod_int hi ((hu 2 (by omega)).trans hu2)
  obtain ⟨z3, hz3⟩ : ∃ y, zs[3]? = some y := ⟨_, List.getElem?_eq_getElem (by omega)⟩
  obtain ⟨o3, p3, _⟩ := DataW.trod_bool hb ((hz 3 (by omega)).trans hz3)
  obtain ⟨u3, hu3⟩ : ∃ y, us[3]? = some y := ⟨_, List.getElem?_eq_getElem (by omega)⟩
  obtain ⟨j3, r3, _, wj3⟩ := DataW.trod_int hi ((hu 3 (by omega)).trans hu3)
  obtain ⟨z4, hz4⟩ : ∃ y, zs[4]? = some y := ⟨_, List.getElem?_eq_getElem (by omega)⟩
  obtain ⟨o4, p4, _⟩ := DataW.trod_bool hb ((hz 4 (by omega)).trans hz4)
  obtain ⟨u4, hu4⟩ : ∃ y, us[4]? = some y := ⟨_, List.getElem?_eq_getElem (by omega)⟩
  obtain ⟨j4, r4, _, wj4⟩ := DataW.trod_int hi ((hu 4 (by omega)).trans hu4)
  simp [Value.cells] at q0 p0 r0 p1 r1 p2 r2 p3 r3 p4 r4
  exact ⟨e, o0, o1, o2, o3, o4, j0, j1, j2, j3, j4, by rw [q0, p0, p1, p2, p3, p4, r0, r1, r2, r3, r4], w0, wj0, wj1, wj2, wj3, wj4⟩
end
end Go.Proofs.Ytfebncpfhdgkpaa
