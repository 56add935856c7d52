/- Rows of mutations whose stamps lie elsewhere. -/
import Derived.Test.YthbhbechemnidaaDoorMutM
import Derived.Deep.CutRange
namespace Go.Proofs.YthbhbechemnidaaDoor
open Go.RowKit Go.Sort

/-- A row of mutations that the call owns; their stamps lie below hi. -/
structure OwnL (w : World) (hi base : Nat) (v : Value) (M : List Mut) : Prop where
  row : ∃ L : List MutS, L.map (·.m) = M ∧ w.ownsRow base 35 10 v L.length (L.flatMap mutL) ∧ ∀ e ∈ L, Reads w hi 3 e.A e.n (e.m.ov.flatMap sc) ∧ e.n ≤ 1000000000 ∧ (e.A = none → e.c = 0)
theorem OwnL.nil_ (w : World) (hi base : Nat) : OwnL w hi base (.slice none 0 0) [] := ⟨[], rfl, World.ownsRow_nil _ _ _ _, fun _ h => by cases h⟩
theorem OwnL.below {w w' : World} {hi base : Nat} {v : Value} {M : List Mut} (h : OwnL w hi base v M) (b : Below w.heap.size w w') (hh : hi ≤ w.heap.size) : OwnL w' hi base v M := by
  obtain ⟨L, rfl, h1, h2⟩ := h.row
  exact ⟨L, rfl, own_below h1 b, fun e he => ⟨(h2 e he).1.below (b.mono hh), (h2 e he).2⟩⟩
theorem OwnL.lt {w : World} {hi base : Nat} {v : Value} {M : List Mut} (h : OwnL w hi base v M) : ∀ k, v.ownBlock = some k → base ≤ k ∧ k < w.heap.size := by
  obtain ⟨L, rfl, h1, _⟩ := h.row
  exact World.ownsRow.lt h1
theorem OwnL.base_le {w : World} {hi base base' : Nat} {v : Value} {M : List Mut} (h : OwnL w hi base v M) (hb : base' ≤ base) : OwnL w hi base' v M := by
  obtain ⟨L, rfl, h1, h2⟩ := h.row
  exact ⟨L, rfl, own_base h1 hb, h2⟩
/-- Mutations that can be read, with their stamps below hi. -/
def RdL (w : World) (hi : Nat) (A : Option Addr) (n : Nat) (L : List MutS) : Prop := Reads w w.heap.size 10 A n (L.flatMap mutL) ∧ ∀ e ∈ L, Reads w hi 3 e.A e.n (e.m.ov.flatMap sc) ∧ e.n ≤ 1000000000 ∧ (e.A = none → e.c = 0)
theorem RdL.below {w w' : World} {hi n : Nat} {A : Option Addr} {L : List MutS} (h : RdL w hi A n L) (b : Below w.heap.size w w') (hh : hi ≤ w.heap.size) : RdL w' hi A n L :=
  ⟨(h.1.below b).more b.size, fun e he => ⟨(h.2 e he).1.below (b.mono hh), (h.2 e he).2⟩⟩
theorem RdL.rdm {w : World} {hi n : Nat} {A : Option Addr} {L : List MutS} (h : RdL w hi A n L) (hh : hi ≤ w.heap.size) : RdM w A n (L.map (·.m)) :=
  ⟨L, rfl, h.1, fun e he => ⟨(h.2 e he).1.more hh, fun _ _ => by simp⟩, fun e he => (h.2 e he).2⟩
theorem OwnL.rd {w : World} {hi base : Nat} {v : Value} {M : List Mut} (h : OwnL w hi base v M) : ∃ A c L, v = .slice A M.length c ∧ M.length ≤ c ∧ (A = none → c = 0) ∧ L.map (·.m) = M ∧ RdL w hi A M.length L := by
  obtain ⟨L, rfl, h1, h2⟩ := h.row
  obtain ⟨A, c, rfl, hc, hn, -⟩ := own_form h1
  rw [List.length_map]
  exact ⟨A, c, L, rfl, hc, hn, rfl, Reads.of_own h1, h2⟩
/-- 'append(out, m)'. -/
theorem append_mut_l {ops : Array Oper} {rest : List Oper} {o : Oper} {a : Act} {Q : Exit → Act → World → Prop} (w : World) (x : Mut) (A : Option Addr) (n c : Nat) (u : Array Value) (hu : u = mutC x (.slice A n c)) (hgd : o.guard = none) (s y : Operand)
    (ho : o.op = .call { callee := .builtin .append, args := #[s, y], argTypes := #[22, 22] }) (hi base : Nat) (v : Value) (M : List Mut) (hs : a.eval s = v) (hown : OwnL w hi base v M)
    (hr : Reads w hi 3 A n (x.ov.flatMap sc)) (hz : n ≤ 1000000000 ∧ (A = none → c = 0)) (hhi : hi ≤ base)
    (hx : a.eval y = .slice (some ⟨w.heap.size, 0, none⟩) 1 1) (hlen : M.length ≤ 1000000000) (hbase : base ≤ w.heap.size)
    (h : ∀ v' w', OwnL w' hi base v' (M ++ [x]) → Below base w w' → wpList Tryd.prog ops Q rest (a.put o.dst v') w') : wpList Tryd.prog ops Q (o :: rest) a (w.alloc (.cells u 35)) := by
  obtain ⟨L, hL, h1, h2⟩ := hown.row
  have hll : L.length = M.length := by rw [← hL, List.length_map]
  refine append_elem_b w u (mutL ⟨x, A, n, c⟩) (by rw [hu]; rfl) 35 hgd s y 22 ho base 35 (.agg #[.int .i64 0, .int .i64 0, .string ⟨#[]⟩, .string ⟨#[]⟩, .string ⟨#[]⟩, .int .i64 0, .int .i64 0, .int .i64 0, .int .i64 0, .slice none 0 0]) 10 120 Tryd.underlying22 info_mut rfl (by decide) v L.length (L.flatMap mutL) hs h1 rfl (mutL_one _) hx (by unfold maxLen; omega) (by omega) hbase ?_
  intro v' w' g1 g2 _
  have hB : Below base w w' := Below.grown ((Below.refl base w).alloc hbase _) g2 (by rw [World.size_alloc]; omega) (fun q hq => (World.ownsRow.lt h1 q hq).1)
  refine h v' w' ⟨L ++ [⟨x, A, n, c⟩], by simp [hL], ?_, ?_⟩ hB
  · rw [flat_snoc, List.length_append]
    exact g1
  · intro e he
    rcases List.mem_append.1 he with he | he
    · exact ⟨(h2 e he).1.below (hB.mono hhi), (h2 e he).2⟩
    · rw [List.mem_singleton.1 he]
      exact ⟨hr.below (hB.mono hhi), hz⟩
/-- An element of such a row. -/
theorem RdL.at_ {w : World} {hi n : Nat} {A : Option Addr} {L : List MutS} (h : RdL w hi A n L) {k : Nat} (hk : k < L.length) : ∃ x b off, L[k] = x ∧ A = some ⟨b, off, none⟩ ∧ b < w.heap.size ∧ (∀ i u, i < 10 → (mutL x)[i]? = some u → w.cell? ⟨b, off + k * 10 + i, none⟩ = some u) ∧ Reads w hi 3 x.A x.n (x.m.ov.flatMap sc) ∧ x.n ≤ 1000000000 ∧ (x.A = none → x.c = 0) := by
  obtain ⟨b, off, hA, hb, hc⟩ := mut_at h.1 hk
  exact ⟨L[k], b, off, rfl, hA, hb, hc, (h.2 _ (List.getElem_mem hk)).1, (h.2 _ (List.getElem_mem hk)).2.1, (h.2 _ (List.getElem_mem hk)).2.2⟩
end Go.Proofs.YthbhbechemnidaaDoor
