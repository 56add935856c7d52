/- Rows of stamps that the call itself owns; the order of stamps as numbers tell it. -/
import Derived.Test.YtnaaknkknhediaaStampG
import Derived.Test.YtnaaknkknhediaaRows1
namespace Go.Proofs.Ytnaaknkknhediaa
open Go.RowKit Go.Sort

theorem cmpS_lt (a0 a1 a2 b0 b1 b2 : Int) : cmpS a0 a1 a2 b0 b1 b2 < 0 ↔ a0 < b0 ∨ (a0 = b0 ∧ (a1 < b1 ∨ (a1 = b1 ∧ a2 < b2))) := by
  unfold cmpS or3 cmpI; omega
theorem cmpS_gt (a0 a1 a2 b0 b1 b2 : Int) : 0 < cmpS a0 a1 a2 b0 b1 b2 ↔ b0 < a0 ∨ (a0 = b0 ∧ (b1 < a1 ∨ (a1 = b1 ∧ b2 < a2))) := by
  unfold cmpS or3 cmpI; omega

/-- A stamp's three cells. -/
def c3 (s : Int × Int × Int) : List Value := [.int .i64 s.1, .int .i64 s.2.1, .int .i64 s.2.2]
theorem c3_len (s : Int × Int × Int) : (c3 s).length = 3 := rfl
theorem c3_one (s : Int × Int × Int) : ∀ u ∈ c3 s, u.oneCell' = true := by
  intro u hu
  simp [c3] at hu
  rcases hu with rfl | rfl | rfl <;> rfl

theorem info_stamp : (Try.prog.info? 51).map (fun i => (i.zero, i.size, i.bytes)) = some (some (.agg #[.int .i64 0, .int .i64 0, .int .i64 0]), 3, 24) := by kernel_rfl

/-- The slice value v owns just the stamps S, in a block from base on. -/
def Sts (w : World) (base : Nat) (v : Value) (S : List (Int × Int × Int)) : Prop := w.ownsRow base 51 3 v S.length (S.flatMap c3)

section
variable {w w' : World} {base : Nat} {v : Value} {S : List (Int × Int × Int)}
theorem Sts.nil_ (w : World) (base : Nat) : Sts w base (.slice none 0 0) [] := World.ownsRow_nil _ _ _ _
theorem Sts.kept {row : Option Nat} (h : Sts w base v S) (hg : w.grownBy w' row) (hne : v.ownBlock = none ∨ v.ownBlock ≠ row) : Sts w' base v S := World.ownsRow.kept h hg hne
theorem Sts.alloc (h : Sts w base v S) (o : Obj) : Sts (w.alloc o) base v S := World.ownsRow.alloc h o
theorem Sts.below (h : Sts w base v S) (hb : Below w.heap.size w w') : Sts w' base v S := own_below h hb
theorem Sts.lt (h : Sts w base v S) : ∀ k, v.ownBlock = some k → base ≤ k ∧ k < w.heap.size := World.ownsRow.lt h
theorem Sts.ne (h : Sts w base v S) {g : Nat} (hg : g < base) : v.ownBlock = none ∨ v.ownBlock ≠ some g := by
  right
  intro e
  have := h.lt g e
  omega
theorem Sts.ne' (h : Sts w base v S) {g : Nat} (hg : g < base) : some g ≠ v.ownBlock := by
  intro e
  have := h.lt g e.symm
  omega
theorem Sts.at_ (h : Sts w base v S) {k : Nat} (hk : k < S.length) : ∃ g c, v = .slice (some ⟨g, 0, none⟩) S.length c ∧ g < w.heap.size ∧ w.cell? ⟨g, k * 3, none⟩ = some (.int .i64 S[k].1) ∧
    w.cell? ⟨g, k * 3 + 1, none⟩ = some (.int .i64 S[k].2.1) ∧ w.cell? ⟨g, k * 3 + 2, none⟩ = some (.int .i64 S[k].2.2) := by
  obtain ⟨A, c, hv, _, _, hc⟩ := own_form h
  obtain ⟨g, rfl, _, hlt, hcell⟩ := hc (by omega)
  have h0 := flat_get c3 3 c3_len S k 0 hk (by decide)
  have h1 := flat_get c3 3 c3_len S k 1 hk (by decide)
  have h2 := flat_get c3 3 c3_len S k 2 hk (by decide)
  exact ⟨g, c, hv, hlt, hcell _ _ h0, hcell _ _ h1, hcell _ _ h2⟩
end

/-- append of a stamp. -/
theorem append_stamp {ops : Array Oper} {rest : List Oper} {o : Oper} {a : Act} {Q : Exit → Act → World → Prop} (w : World) (s : Int × Int × Int) (t : TypeId) (hgd : o.guard = none) (sl x : Operand)
    (ho : o.op = .call { callee := .builtin .append, args := #[sl, x], argTypes := #[74, 74] }) (base : Nat) (v : Value) (S : List (Int × Int × Int)) (hs : a.eval sl = v) (hown : Sts w base v S)
    (hx : a.eval x = .slice (some ⟨w.heap.size, 0, none⟩) 1 1) (hlen : S.length ≤ 100000000) (hbase : base ≤ w.heap.size)
    (h : ∀ v' w', Sts w' base v' (S ++ [s]) → w.grownBy w' v.ownBlock → LiesIn w v v' → wpList Try.prog ops Q rest (a.put o.dst v') w') :
    wpList Try.prog ops Q (o :: rest) a (w.alloc (.cells #[.int .i64 s.1, .int .i64 s.2.1, .int .i64 s.2.2] t)) := by
  refine append_elem w _ (c3 s) rfl t hgd sl x 74 ho base 51 _ 3 24 Try.underlying74 info_stamp rfl (by decide) v S.length (S.flatMap c3) hs hown rfl (c3_one s) hx (by unfold maxLen; omega) (by omega) hbase ?_
  intro v' w' h1 h2 h3
  refine h v' w' ?_ h2 h3
  unfold Sts
  rw [List.flatMap_append, List.length_append]
  simpa using h1
end Go.Proofs.Ytnaaknkknhediaa
