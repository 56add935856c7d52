/- A slice of texts that the call itself owns; append of one text. -/
import Derived.Test.YtimmfcbpdnlfjaaDoorRows1
import Derived.Test.YtimmfcbpdnlfjaaDoorRunes
namespace Go.Proofs.YtimmfcbpdnlfjaaDoor
open Go.RowKit

def sv (l : List UInt8) : Value := .string ⟨l.toArray⟩
theorem sv_one (S : List (List UInt8)) : ∀ u ∈ S.map sv, u.oneCell' = true := by
  intro u hu
  obtain ⟨c, _, rfl⟩ := List.mem_map.1 hu
  rfl
theorem info_string : (Tryd.prog.info? 9).map (fun i => (i.zero, i.size, i.bytes)) = some (some (.string ⟨#[]⟩), 1, 16) := by kernel_rfl

/-- The slice value v owns just the texts S, in a block from base on. -/
def OwnS (w : World) (base : Nat) (v : Value) (S : List (List UInt8)) : Prop := w.ownsRow base 9 1 v S.length (S.map sv)

section
variable {w w' : World} {base : Nat} {v : Value} {S : List (List UInt8)}
theorem OwnS.nil_ (w : World) (base : Nat) : OwnS w base (.slice none 0 0) [] := World.ownsRow_nil _ _ _ _
theorem OwnS.below (h : OwnS w base v S) (hb : Below w.heap.size w w') : OwnS w' base v S := own_below h hb
theorem OwnS.alloc (h : OwnS w base v S) (o : Obj) : OwnS (w.alloc o) base v S := World.ownsRow.alloc h o
theorem OwnS.reads (h : OwnS w base v S) : ∃ A c, v = .slice A S.length c ∧ S.length ≤ c ∧ (A = none → c = 0) ∧ Reads w w.heap.size 1 A S.length (S.map sv) := by
  obtain ⟨A, c, hv, hc, hA, _⟩ := own_form h
  subst hv
  exact ⟨A, c, rfl, hc, hA, Reads.of_own h⟩
end

/-- append of a text. -/
theorem append_str {ops : Array Oper} {rest : List Oper} {o : Oper} {a : Act} {Q : Exit → Act → World → Prop} (w : World) (p : List UInt8) (u : Array Value) (hu : u.toList = [sv p]) (t : TypeId) (hgd : o.guard = none) (sl x : Operand)
    (ho : o.op = .call { callee := .builtin .append, args := #[sl, x], argTypes := #[48, 48] }) (base : Nat) (v : Value) (S : List (List UInt8)) (hs : a.eval sl = v) (hown : OwnS w base v S)
    (hx : a.eval x = .slice (some ⟨w.heap.size, 0, none⟩) 1 1) (hlen : S.length ≤ 1000000000) (hbase : base ≤ w.heap.size)
    (h : ∀ v' w', OwnS w' base v' (S ++ [p]) → w.grownBy w' v.ownBlock → LiesIn w v v' → wpList Tryd.prog ops Q rest (a.put o.dst v') w') :
    wpList Tryd.prog ops Q (o :: rest) a (w.alloc (.cells u t)) := by
  refine append_elem w _ [sv p] hu t hgd sl x 48 ho base 9 _ 1 16 Tryd.underlying48 info_string rfl (by decide) v S.length (S.map sv) hs hown rfl (sv_one [p]) hx (by unfold maxLen; omega) (by omega) hbase ?_
  intro v' w' h1 h2 h3
  refine h v' w' ?_ h2 h3
  unfold OwnS
  rw [List.map_append, List.length_append]
  exact h1
/-- A part of a text: one byte. -/
theorem cut_one {P : Program} (t : TypeId) (ht : P.underlying t = some .string) (s : ByteArray) (k : Nat) (hk : k < s.size) (w : World) :
    (Instr.slice t (.string s) (some (.int .i64 (k : Int))) (some (.int .i64 ((k : Int) + 1))) none).run P w = .ok (.string ⟨[s[k]].toArray⟩) w := by
  rw [run_slice_string w _ _ _ _ _ _ ht (by omega) (by omega) (by omega)]
  have e1 : ((k : Int)).toNat = k := by omega
  have e2 : ((k : Int) + 1).toNat = k + 1 := by omega
  rw [e1, e2]
  congr 2
  apply ByteArray.ext
  rw [ByteArray.data_extract]
  apply Array.ext
  · simp
    have : s.data.size = s.size := rfl
    omega
  · intro i h1 h2
    simp at h2
    subst h2
    simp
    rfl
end Go.Proofs.YtimmfcbpdnlfjaaDoor
