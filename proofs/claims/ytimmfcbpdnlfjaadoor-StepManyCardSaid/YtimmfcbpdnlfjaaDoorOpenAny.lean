/- What came in, opened to plain data, for types built of numbers, bools, texts, slices and structs. No program is named here, and nothing is assumed. -/
import Derived.Test.YtimmfcbpdnlfjaaDoorOpen
import Derived.Test.YtimmfcbpdnlfjaaDoorRows1
namespace Go.Proofs.YtimmfcbpdnlfjaaDoor
open Go.RowKit Go.ChangeShapes Go.WideShapes Go.ChangeAt Go.Joins Go.Deep

section
variable {H : Type} {enc : TypeId × Value → H} {P : Program} {W : World}

/-- Whatever cells are read as data of the type t meet R. -/
def Opens (enc : TypeId × Value → H) (P : Program) (W : World) (t : TypeId) (R : List Value → Prop) : Prop :=
  ∀ fuel cs x, DataW.trod enc P W 0 (fun _ => true) true fuel t cs = some x → R cs

theorem opens_int {t : TypeId} {k : IntKind} (ht : P.underlying t = some (.int k)) : Opens enc P W t fun cs => ∃ a : Int, cs = [.int k a] ∧ (Lit.int k a).wf = true := by
  intro fuel cs x h
  obtain ⟨a, h1, _, h2⟩ := DataW.trod_int ht h
  exact ⟨a, h1, h2⟩
theorem opens_bool {t : TypeId} (ht : P.underlying t = some .bool) : Opens enc P W t fun cs => ∃ b : Bool, cs = [.bool b] := by
  intro fuel cs x h
  obtain ⟨b, h1, _⟩ := DataW.trod_bool ht h
  exact ⟨b, h1⟩
theorem opens_string {t : TypeId} (ht : P.underlying t = some .string) : Opens enc P W t fun cs => ∃ s : ByteArray, cs = [.string s] ∧ s.size ≤ maxLen := by
  intro fuel cs x h
  obtain ⟨s, h1, _, h2⟩ := DataW.trod_string ht h
  exact ⟨s, h1, h2⟩
theorem Opens.mono {t : TypeId} {R R' : List Value → Prop} (h : Opens enc P W t R) (hR : ∀ cs, R cs → R' cs) : Opens enc P W t R' := fun fuel cs x hx => hR cs (h fuel cs x hx)

def SliceR (W : World) (s : Nat) (R : List Value → Prop) (cs : List Value) : Prop :=
  ∃ (A : Option Addr) (n c : Nat) (xs : List (List Value)), cs = [.slice A n c] ∧ n ≤ c ∧ c ≤ maxLen ∧ (A = none → c = 0) ∧ xs.length = n ∧ (∀ x ∈ xs, R x) ∧ Reads W W.heap.size s A n xs.flatten

theorem opens_slice {tl t : TypeId} {s : Nat} {R : List Value → Prop} (ht : P.underlying tl = some (.slice t)) (hs : P.cellsOf t = s) (h0 : 0 < s) (h : Opens enc P W t R) : Opens enc P W tl (SliceR W s R) := by
  intro fuel cs x hx
  rcases DataW.trod_slice ht hx with ⟨hcs, _⟩ | ⟨a, n, c, elems, rest, m, _, hcs, _, hb, hl, hm, hlen, hel, _, _⟩
  · exact ⟨none, 0, 0, [], hcs, Nat.le_refl _, by simp, fun _ => rfl, rfl, by simp, Reads.none_⟩
  · obtain ⟨f, hf⟩ : ∃ f : Nat → List Value, f = fun i => let l := (W.cells? 0 (a.add (i * s)) s).getD []; if l.length = s then l else List.replicate s undef := ⟨_, rfl⟩
    have hfl : ∀ i, (f i).length = s := by
      intro i
      rw [hf]
      dsimp only
      split
      · assumption
      · simp
    have hfi : ∀ i, i < n → W.cells? 0 (a.add (i * s)) s = some (f i) ∧ R (f i) ∧ ∀ j, j < s → W.cell? (a.add (i * s + j)) = (f i)[j]? := by
      intro i hi
      have he := hel i hi
      rw [List.getElem?_eq_getElem (by omega), Option.bind_eq_some_iff] at he
      obtain ⟨cs', hcells, htr⟩ := he
      rw [hs] at hcells
      obtain ⟨_, hl5, hget⟩ := World.cells?_some hcells
      have hfe : f i = cs' := by
        rw [hf]
        dsimp only
        rw [hcells, Option.getD_some, if_pos hl5]
      rw [hfe]
      refine ⟨hcells, h _ _ _ htr, fun j hj => ?_⟩
      have := hget j hj
      rwa [add_of_add] at this
    refine ⟨some a, n, c, (List.range n).map f, hcs, hl, hm, fun h => (by cases h), by simp, ?_, ?_, fun hn => ⟨a, rfl, ?_, ?_⟩⟩
    · intro x hx
      obtain ⟨i, hi, rfl⟩ := List.mem_map.1 hx
      exact (hfi i (List.mem_range.1 hi)).2.1
    · rw [show ((List.range n).map f).flatten = (List.range n).flatMap f from rfl, flat_len f s hfl, List.length_range]
    · have h1 := (hfi 0 hn).2.2 0 h0
      rw [List.getElem?_eq_getElem (by rw [hfl]; exact h0)] at h1
      have h2 := World.block_lt_of_cell? W _ h1
      rwa [block_of_add] at h2
    · intro j u hu
      rw [show ((List.range n).map f).flatten = (List.range n).flatMap f from rfl] at hu
      have hj := (List.getElem?_eq_some_iff.1 hu).1
      rw [flat_len f s hfl, List.length_range] at hj
      have hdm := Nat.div_add_mod j s
      have hq : j / s < n := (Nat.div_lt_iff_lt_mul h0).2 hj
      have hr := Nat.mod_lt j h0
      have e := flat_get f s hfl (List.range n) (j / s) (j % s) (by simpa using hq) hr
      rw [Nat.mul_comm, hdm, hu] at e
      have h1 := (hfi (j / s) hq).2.2 (j % s) hr
      rw [Nat.mul_comm, hdm] at h1
      rw [h1, e]
      simp

/-- A struct's fields, one by one. -/
theorem opens_struct {t : TypeId} {fs : Array Field} (Rs : List (List Value → Prop)) (ht : P.underlying t = some (.struct fs)) (h : ∀ (i : Nat) (f : Field) (R : List Value → Prop), fs[i]? = some f → Rs[i]? = some R → Opens enc P W f.type R) :
    Opens enc P W t fun cs => cs.length = P.cellsOf t ∧ ∀ (i : Nat) (f : Field) (R : List Value → Prop), fs[i]? = some f → Rs[i]? = some R → R ((cs.drop f.offset).take (P.cellsOf f.type)) := by
  intro fuel cs x hx
  obtain ⟨xs, n, _, _, h1, h2, hg⟩ := DataW.trod_struct ht hx
  refine ⟨h1, fun i f R hf hR => ?_⟩
  have hi : i < fs.size := (Array.getElem?_eq_some_iff.1 hf).1
  have := hg i f hf
  rw [List.getElem?_eq_getElem (by omega)] at this
  exact h i f R hf hR _ _ _ this

/-- Whoever each is of a form is a list of these. -/
theorem list_choice {α : Type} {f : α → List Value} {Q : α → Prop} : ∀ xs : List (List Value), (∀ x ∈ xs, ∃ a, x = f a ∧ Q a) → ∃ ys : List α, xs = ys.map f ∧ ∀ y ∈ ys, Q y
  | [], _ => ⟨[], rfl, by simp⟩
  | x :: xs, h => by
    obtain ⟨a, e, q⟩ := h x (List.mem_cons_self ..)
    obtain ⟨ys, e2, q2⟩ := list_choice xs fun y hy => h y (List.mem_cons_of_mem _ hy)
    refine ⟨a :: ys, by rw [e, e2]; rfl, fun y hy => ?_⟩
    rcases List.mem_cons.1 hy with rfl | hy
    · exact q
    · exact q2 y hy
theorem flatten_one {α : Type} (f : α → Value) : ∀ ys : List α, (ys.map fun a => [f a]).flatten = ys.map f
  | [] => rfl
  | y :: ys => by simp [flatten_one f ys]

theorem top_slice {r : Reach} {base : Nat} {tl t : TypeId} {v : Value} {d : DataW H} {p : List MemPlace} {s : Nat} {R : List Value → Prop} (ht : P.underlying tl = some (.slice t)) (hs : P.cellsOf t = s) (h0 : 0 < s) (ho : Opens enc P W t R)
    (hv : Value.okWide P W r base tl v) (h : DataW.Trod enc P W 0 (fun _ => true) true tl v d p) :
    ∃ (A : Option Addr) (n c : Nat) (xs : List (List Value)), v = .slice A n c ∧ n ≤ c ∧ c ≤ maxLen ∧ (A = none → c = 0) ∧ xs.length = n ∧ (∀ x ∈ xs, R x) ∧ Reads W W.heap.size s A n xs.flatten := by
  obtain ⟨a0, len0, cap0, rfl⟩ := okWide_slice ht hv
  obtain ⟨fuel, hf⟩ := h
  obtain ⟨A, n, c, xs, hcs, q⟩ := opens_slice ht hs h0 ho _ _ _ hf
  simp [Value.cells] at hcs
  obtain ⟨rfl, rfl, rfl⟩ := hcs
  exact ⟨_, _, _, xs, rfl, q⟩
theorem top_struct {r : Reach} {base : Nat} {t : TypeId} {fs : Array Field} {v : Value} {d : DataW H} {p : List MemPlace} {R : List Value → Prop} (ht : P.underlying t = some (.struct fs)) (ho : Opens enc P W t R)
    (hv : Value.okWide P W r base t v) (h : DataW.Trod enc P W 0 (fun _ => true) true t v d p) : ∃ cs, v = .agg cs ∧ cs.size = P.cellsOf t ∧ R cs.toList := by
  obtain ⟨cs, rfl, hsz⟩ := okWide_struct ht hv
  obtain ⟨fuel, hf⟩ := h
  exact ⟨cs, rfl, hsz, by simpa [Value.cells] using ho _ _ _ hf⟩
end
end Go.Proofs.YtimmfcbpdnlfjaaDoor
