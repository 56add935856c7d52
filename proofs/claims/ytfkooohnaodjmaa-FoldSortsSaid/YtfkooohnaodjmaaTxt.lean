/- Rows of texts that the call owns; append of one text. (As XStrs, the texts told as they are.) -/
import Derived.Test.YtfkooohnaodjmaaRows1
import Derived.Test.YtfkooohnaodjmaaHang
import Derived.Test.YtfkooohnaodjmaaKeep
namespace Go.Proofs.Ytfkooohnaodjmaa
open Go.RowKit

theorem info_stringX : (Try.prog.info? 9).map (fun i => (i.zero, i.size, i.bytes)) = some (some (.string ⟨#[]⟩), 1, 16) := by kernel_rfl
/-- The slice value v owns just the texts S, in a block from base on. -/
def OwnX (w : World) (base : Nat) (v : Value) (S : List ByteArray) : Prop := w.ownsRow base 9 1 v S.length (S.map Value.string)
section
variable {w w' : World} {base : Nat} {v : Value} {S : List ByteArray}
theorem OwnX.nil_ (w : World) (base : Nat) : OwnX w base (.slice none 0 0) [] := World.ownsRow_nil _ _ _ _
theorem OwnX.below (h : OwnX w base v S) (hb : Below w.heap.size w w') : OwnX w' base v S := own_below h hb
theorem OwnX.base_le {b' : Nat} (h : OwnX w base v S) (hb : b' ≤ base) : OwnX w b' v S := own_base h hb
theorem OwnX.form (h : OwnX w base v S) : ∃ A c, v = .slice A S.length c ∧ S.length ≤ c ∧ (A = none → c = 0) ∧ (0 < S.length → ∃ g, A = some ⟨g, 0, none⟩ ∧ base ≤ g ∧ g < w.heap.size) := by
  obtain ⟨A, c, rfl, hc, hA, hg⟩ := own_form h
  exact ⟨A, c, rfl, hc, hA, fun h0 => by obtain ⟨g, e, h1, h2, _⟩ := hg h0; exact ⟨g, e, h1, h2⟩⟩
theorem OwnX.at_ {g c : Nat} (h : OwnX w base (.slice (some ⟨g, 0, none⟩) S.length c) S) (k : Nat) (hk : k < S.length) : w.cell? ⟨g, k, none⟩ = some (.string S[k]) := by
  have h1 : (S.map Value.string)[k]? = some (.string S[k]) := by rw [List.getElem?_map, List.getElem?_eq_getElem hk]; rfl
  have a1 := World.ownsRow.cells h (g := g) rfl _ _ h1
  rw [add_lit, Nat.zero_add] at a1
  exact a1
theorem OwnX.reads (h : OwnX w base v S) : ∃ A c, v = .slice A S.length c ∧ S.length ≤ c ∧ (A = none → c = 0) ∧ Reads w w.heap.size 1 A S.length (S.map Value.string) := by
  obtain ⟨A, c, hv, hc, hA, _⟩ := own_form h
  subst hv
  exact ⟨A, c, rfl, hc, hA, Reads.of_own h⟩
end
/-- append of a text. -/
theorem append_txt {ops : Array Oper} {rest : List Oper} {o : Oper} {a : Act} {Q : Exit → Act → World → Prop} (w : World) (p : ByteArray) (u : Array Value) (hu : u.toList = [.string p]) (t : TypeId) (hgd : o.guard = none) (sl x : Operand)
    (ho : o.op = .call { callee := .builtin .append, args := #[sl, x], argTypes := #[49, 49] }) (base : Nat) (v : Value) (S : List ByteArray) (hs : a.eval sl = v) (hown : OwnX w base v S)
    (hx : a.eval x = .slice (some ⟨w.heap.size, 0, none⟩) 1 1) (hlen : S.length ≤ 1000000000) (hbase : base ≤ w.heap.size)
    (h : ∀ v' w', OwnX w' base v' (S ++ [p]) → w.grownBy w' v.ownBlock → LiesIn w v v' → wpList Try.prog ops Q rest (a.put o.dst v') w') :
    wpList Try.prog ops Q (o :: rest) a (w.alloc (.cells u t)) := by
  refine append_elem w _ [.string p] hu t hgd sl x 49 ho base 9 _ 1 16 Try.underlying49 info_stringX rfl (by decide) v S.length (S.map Value.string) hs hown rfl (fun u hu => by rw [List.mem_singleton.1 hu]; rfl) hx (by unfold maxLen; omega) (by omega) hbase ?_
  intro v' w' h1 h2 h3
  refine h v' w' ?_ h2 h3
  unfold OwnX
  rw [List.map_append, List.length_append]
  exact h1
end Go.Proofs.Ytfkooohnaodjmaa
