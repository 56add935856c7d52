/- Rows of spans: texts by twos. -/
import Derived.Test.YtomefcngaclehaaSpnP
import Derived.Test.YtomefcngaclehaaKeep
import Derived.Test.YtomefcngaclehaaHang
import Derived.Test.YtomefcngaclehaaMixK
import Derived.Deep.CutRange
namespace Go.Proofs.Ytomefcngaclehaa
open Go.RowKit Go.Sort

abbrev Sp := Spn ByteArray
def spL (s : Sp) : List Value := [.string s.1, .string s.2]
/-- A row of spans that the call owns. -/
def OwnP (T : TypeId) (w : World) (base : Nat) (v : Value) (C : List Sp) : Prop := w.ownsRow base T 2 v C.length (C.flatMap spL)
/-- A row of spans that can be read. -/
def RdP (w : World) (A : Option Addr) (C : List Sp) : Prop := Reads w w.heap.size 2 A C.length (C.flatMap spL)
theorem sp_len : ∀ C : List Sp, (C.flatMap spL).length = C.length * 2
  | [] => rfl
  | c :: C => by rw [List.flatMap_cons, List.length_append, sp_len C, List.length_cons]; show 2 + _ = _; omega
theorem sp_get : ∀ (C : List Sp) (k : Nat) (hk : k < C.length), (C.flatMap spL)[k * 2]? = some (.string C[k].1) ∧ (C.flatMap spL)[k * 2 + 1]? = some (.string C[k].2)
  | c :: C, 0, _ => ⟨rfl, rfl⟩
  | c :: C, k + 1, hk => by
    have ih := sp_get C k (by simpa using hk)
    rw [show (k + 1) * 2 = (k * 2) + 1 + 1 by omega, show k * 2 + 1 + 1 + 1 = (k * 2 + 1) + 1 + 1 by omega]
    exact ih
theorem sp_set2 : ∀ (D : List Sp) (t u u' : ByteArray), ((D ++ [(t, u)]).flatMap spL).set (D.length * 2 + 1) (.string u') = (D ++ [(t, u')]).flatMap spL
  | [], t, u, u' => rfl
  | c :: D, t, u, u' => by
    have ih := sp_set2 D t u u'
    show (Value.string c.1 :: Value.string c.2 :: (D ++ [(t, u)]).flatMap spL).set ((D.length + 1) * 2 + 1) (.string u') = Value.string c.1 :: Value.string c.2 :: (D ++ [(t, u')]).flatMap spL
    rw [show (D.length + 1) * 2 + 1 = D.length * 2 + 1 + 1 + 1 by omega, List.set_cons_succ, List.set_cons_succ, ih]
section
variable {T : TypeId} {w w' : World} {base base' : Nat} {v : Value} {C : List Sp}
theorem OwnP.nil_ (T : TypeId) (w : World) (base : Nat) : OwnP T w base (.slice none 0 0) [] := World.ownsRow_nil _ _ _ _
theorem OwnP.below (h : OwnP T w base v C) (b : Below w.heap.size w w') : OwnP T w' base v C := own_below h b
theorem OwnP.base_le (h : OwnP T w base v C) (hb : base' ≤ base) : OwnP T w base' v C := own_base h hb
theorem OwnP.lt (h : OwnP T w base v C) : ∀ k, v.ownBlock = some k → base ≤ k ∧ k < w.heap.size := World.ownsRow.lt h
theorem OwnP.at_ {g c : Nat} (h : OwnP T w base (.slice (some ⟨g, 0, none⟩) C.length c) C) (k : Nat) (hk : k < C.length) : w.cell? ⟨g, k * 2, none⟩ = some (.string C[k].1) ∧ w.cell? ⟨g, k * 2 + 1, none⟩ = some (.string C[k].2) := by
  obtain ⟨h1, h2⟩ := sp_get C k hk
  have a1 := World.ownsRow.cells h (g := g) rfl _ _ h1
  have a2 := World.ownsRow.cells h (g := g) rfl _ _ h2
  rw [add_lit] at a1 a2
  rw [Nat.zero_add] at a1 a2
  exact ⟨a1, a2⟩
theorem OwnP.form (h : OwnP T w base v C) : ∃ A c, v = .slice A C.length c ∧ C.length ≤ c ∧ (A = none → c = 0) ∧ (0 < C.length → ∃ g, A = some ⟨g, 0, none⟩ ∧ base ≤ g ∧ g < w.heap.size) := by
  obtain ⟨A, c, rfl, hc, hA, hg⟩ := own_form h
  exact ⟨A, c, rfl, hc, hA, fun h0 => by obtain ⟨g, e, h1, h2, _⟩ := hg h0; exact ⟨g, e, h1, h2⟩⟩
theorem OwnP.reads (h : OwnP T w base v C) : ∃ A c, v = .slice A C.length c ∧ C.length ≤ c ∧ (A = none → c = 0) ∧ RdP w A C := by
  obtain ⟨A, c, hv, hc, hA, _⟩ := own_form h
  subst hv
  exact ⟨A, c, rfl, hc, hA, Reads.of_own h⟩
theorem RdP.below {A : Option Addr} (h : RdP w A C) (b : Below w.heap.size w w') : RdP w' A C := Reads.more (Reads.below h b) b.size
theorem RdP.at_ {A : Option Addr} (h : RdP w A C) (h0 : 0 < C.length) : ∃ b off, A = some ⟨b, off, none⟩ ∧ b < w.heap.size ∧ ∀ k (hk : k < C.length), w.cell? ⟨b, off + k * 2, none⟩ = some (.string C[k].1) ∧ w.cell? ⟨b, off + k * 2 + 1, none⟩ = some (.string C[k].2) := by
  obtain ⟨b, off, hA, hb, hc⟩ := Reads.formk h h0 (by decide)
  refine ⟨b, off, hA, hb, fun k hk => ?_⟩
  obtain ⟨h1, h2⟩ := sp_get C k hk
  exact ⟨hc _ _ h1, by rw [Nat.add_assoc]; exact hc _ _ h2⟩
theorem RdP.nil_ (w : World) (A : Option Addr) : RdP w A [] := ⟨by simp, fun h => absurd h (by simp)⟩
end
theorem sp_one (s : Sp) : ∀ u ∈ spL s, u.oneCell' = true := fun u hu => by simp only [spL, List.mem_cons, List.mem_nil_iff, or_false] at hu; rcases hu with rfl | rfl <;> rfl
theorem info_span : (Try.prog.info? 41).map (fun i => (i.zero, i.size, i.bytes)) = some (some (.agg #[.string ⟨#[]⟩, .string ⟨#[]⟩]), 2, 32) := by kernel_rfl
theorem info_s46 : (Try.prog.info? 45).map (fun i => (i.zero, i.size, i.bytes)) = some (some (.agg #[.string ⟨#[]⟩, .string ⟨#[]⟩]), 2, 32) := by kernel_rfl
/-- append of a span. -/
theorem append_span {ops : Array Oper} {rest : List Oper} {o : Oper} {a : Act} {Q : Exit → Act → World → Prop} (w : World) (c0 : Sp) (u : Array Value) (hu : u.toList = spL c0) (t : TypeId) (hgd : o.guard = none) (sl x : Operand)
    (ho : o.op = .call { callee := .builtin .append, args := #[sl, x], argTypes := #[39, 39] }) (base : Nat) (v : Value) (S : List Sp) (hs : a.eval sl = v) (hown : OwnP 41 w base v S)
    (hx : a.eval x = .slice (some ⟨w.heap.size, 0, none⟩) 1 1) (hlen : S.length ≤ 1000000000) (hbase : base ≤ w.heap.size)
    (h : ∀ v' w', OwnP 41 w' base v' (S ++ [c0]) → w.grownBy w' v.ownBlock → LiesIn w v v' → wpList Try.prog ops Q rest (a.put o.dst v') w') :
    wpList Try.prog ops Q (o :: rest) a (w.alloc (.cells u t)) := by
  refine append_elem w u (spL c0) hu t hgd sl x 39 ho base 41 _ 2 32 Try.underlying39 info_span rfl (by decide) v S.length (S.flatMap spL) hs hown rfl (sp_one c0) hx (by unfold maxLen; omega) (by omega) hbase ?_
  intro v' w' h1 h2 h3
  refine h v' w' ?_ h2 h3
  unfold OwnP
  rw [List.flatMap_append, List.length_append]
  simpa using h1
theorem append_s46 {ops : Array Oper} {rest : List Oper} {o : Oper} {a : Act} {Q : Exit → Act → World → Prop} (w : World) (c0 : Sp) (u : Array Value) (hu : u.toList = spL c0) (t : TypeId) (hgd : o.guard = none) (sl x : Operand)
    (ho : o.op = .call { callee := .builtin .append, args := #[sl, x], argTypes := #[46, 46] }) (base : Nat) (v : Value) (S : List Sp) (hs : a.eval sl = v) (hown : OwnP 45 w base v S)
    (hx : a.eval x = .slice (some ⟨w.heap.size, 0, none⟩) 1 1) (hlen : S.length ≤ 1000000000) (hbase : base ≤ w.heap.size)
    (h : ∀ v' w', OwnP 45 w' base v' (S ++ [c0]) → w.grownBy w' v.ownBlock → LiesIn w v v' → wpList Try.prog ops Q rest (a.put o.dst v') w') :
    wpList Try.prog ops Q (o :: rest) a (w.alloc (.cells u t)) := by
  refine append_elem w u (spL c0) hu t hgd sl x 46 ho base 45 _ 2 32 Try.underlying46 info_s46 rfl (by decide) v S.length (S.flatMap spL) hs hown rfl (sp_one c0) hx (by unfold maxLen; omega) (by omega) hbase ?_
  intro v' w' h1 h2 h3
  refine h v' w' ?_ h2 h3
  unfold OwnP
  rw [List.flatMap_append, List.length_append]
  simpa using h1
/-- .. told from the world in which the element lies. -/
theorem append_s46a {ops : Array Oper} {rest : List Oper} {o : Oper} {a : Act} {Q : Exit → Act → World → Prop} (w : World) (c0 : Sp) (u : Array Value) (hu : u.toList = spL c0) (t : TypeId) (hgd : o.guard = none) (sl x : Operand)
    (ho : o.op = .call { callee := .builtin .append, args := #[sl, x], argTypes := #[46, 46] }) (base : Nat) (v : Value) (S : List Sp) (hs : a.eval sl = v) (hown : OwnP 45 w base v S)
    (hx : a.eval x = .slice (some ⟨w.heap.size, 0, none⟩) 1 1) (hlen : S.length ≤ 1000000000) (hbase : base ≤ w.heap.size)
    (h : ∀ v' w', OwnP 45 w' base v' (S ++ [c0]) → (w.alloc (.cells u t)).grownBy w' v.ownBlock → wpList Try.prog ops Q rest (a.put o.dst v') w') :
    wpList Try.prog ops Q (o :: rest) a (w.alloc (.cells u t)) := by
  refine append_elem_a w u (spL c0) hu t hgd sl x 46 ho base 45 _ 2 32 Try.underlying46 info_s46 rfl (by decide) v S.length (S.flatMap spL) hs hown rfl (sp_one c0) hx (by unfold maxLen; omega) (by omega) hbase ?_
  intro v' w' h1 h2
  refine h v' w' ?_ h2
  unfold OwnP
  rw [List.flatMap_append, List.length_append]
  simpa using h1
end Go.Proofs.Ytomefcngaclehaa
