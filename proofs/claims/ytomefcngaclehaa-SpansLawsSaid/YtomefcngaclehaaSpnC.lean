/- Tests on texts by cmpT; the closures of spans; a span's own Has. -/
import Derived.Test.YtomefcngaclehaaSpnB
namespace Go.Proofs.Ytomefcngaclehaa
open Go.RowKit Go.Sort

def leT (a b : ByteArray) : Bool := decide (cmpT a b ≤ 0)
def ltT (a b : ByteArray) : Bool := decide (cmpT a b < 0)
def neT (a b : ByteArray) : Bool := decide (cmpT a b ≠ 0)
theorem le_T (a b : ByteArray) : (Op.bytesLess a.toList b.toList || a.toList == b.toList) = leT a b := by
  unfold leT
  rcases cmpT_cases a b with ⟨h, e⟩ | ⟨h, h2, e⟩ | ⟨h, h2, e⟩ <;> rw [h, e]
  · rfl
  · rw [h2]; rfl
  · rw [h2]; rfl
theorem lt_T (a b : ByteArray) : Op.bytesLess a.toList b.toList = ltT a b := by
  unfold ltT
  rcases cmpT_cases a b with ⟨h, e⟩ | ⟨h, h2, e⟩ | ⟨h, h2, e⟩ <;> rw [h, e] <;> rfl
theorem ne_T (a b : ByteArray) : (!(a.toList == b.toList)) = neT a b := by
  unfold neT
  by_cases h : a.toList = b.toList
  · have h1 := (cmpT_zero a b).2 h
    rw [h1, h]
    simp
  · have h1 : cmpT a b ≠ 0 := fun h9 => h ((cmpT_zero a b).1 h9)
    simp [h1, h]
theorem not_ltT (a b : ByteArray) : (!ltT a b) = leT b a := by
  unfold ltT leT
  have := cmp_T.anti a b
  by_cases h : cmpT a b < 0
  · rw [decide_eq_true h, decide_eq_false (by omega)]; rfl
  · rw [decide_eq_false h, decide_eq_true (by omega)]; rfl
theorem not_leT (a b : ByteArray) : (!leT a b) = ltT b a := by rw [← not_ltT, Bool.not_not]
theorem lo_T (a b : ByteArray) : (ltT a b || a.toList == b.toList) = leT a b := by rw [← lt_T, le_T]
attribute [local go_sem] lt_T lo_T not_ltT not_leT ne_T
theorem le_S (s : Sp) : leT s.2 s.1 = decide (cmpT s.2 s.1 ≤ 0) := rfl

set_option maxRecDepth 100000 in
theorem of_drops (a b : ByteArray) (w : World) : Calls Try.prog 50 #[.agg #[.string a, .string b]] w fun e w' => e = .returned (.bool (leT b a)) ∧ Below w.heap.size w w' := by
  have B0 := Blk.new w 41 #[.string a, .string b]
  have q0 := B0.cell 0
  have q1 := B0.cell 1
  have hb := (Below.refl w.heap.size w).alloc (Nat.le_refl _) (.cells #[.string a, .string b] 41)
  clear B0
  go_enter Try.func50, Try.ntmps50
  go_wp2_with fail
  go_ret
  exact ⟨rfl, hb⟩

set_option maxRecDepth 100000 in
theorem span_Has (a b k : ByteArray) (w : World) : Calls Try.prog 27 #[.agg #[.string a, .string b], .string k] w fun e w' => e = .returned (.bool (inS cmpT (a, b) k)) ∧ Below w.heap.size w w' := by
  have B0 := Blk.new w 41 #[.string a, .string b]
  have q0 := B0.cell 0
  have q1 := B0.cell 1
  have hb := (Below.refl w.heap.size w).alloc (Nat.le_refl _) (.cells #[.string a, .string b] 41)
  have E : inS cmpT (a, b) k = (leT a k && ltT k b) := rfl
  rw [E]
  clear B0 E
  cases h1 : leT a k <;> cases h2 : ltT k b
  all_goals
    go_enter Try.func27, Try.ntmps27
    go_wp2_with fail
    go_ret
    exact ⟨rfl, hb⟩

set_option maxRecDepth 100000 in
theorem set_Has1 (a b k : ByteArray) (w : World) : Calls Try.prog 55 #[.agg #[.string a, .string b], .string k] w fun e w' => e = .returned (.int .i64 (cmpT a k)) ∧ Below w.heap.size w w' := by
  have B0 := Blk.new w 41 #[.string a, .string b]
  have q0 := B0.cell 0
  have hb := (Below.refl w.heap.size w).alloc (Nat.le_refl _) (.cells #[.string a, .string b] 41)
  have HC := Lib.hid (cmp_CompareS a k (w.alloc (.cells #[.string a, .string b] 41)))
  clear B0
  go_enter Try.func55, Try.ntmps55
  go_wp2_with fail
  refine HC.out.mono ?_
  rintro e w' ⟨rfl, rfl⟩
  go_wp2_with fail
  go_ret
  exact ⟨rfl, hb⟩

set_option maxRecDepth 100000 in
theorem covers1 (x1 x2 : ByteArray) (g : Nat) (a b : ByteArray) (w : World) (hx1 : w.cell? ⟨g, 0, none⟩ = some (.string x1)) (hx2 : w.cell? ⟨g, 1, none⟩ = some (.string x2)) :
    Calls Try.prog 57 #[.agg #[.string a, .string b], .pointer (some ⟨g, 0, none⟩)] w fun e w' => e = .returned (.bool (decide (cmpT a x1 ≤ 0) && decide (cmpT x2 b ≤ 0))) ∧ Below w.heap.size w w' := by
  have B0 := Blk.new w 41 #[.string a, .string b]
  have q0 := B0.cell 0
  have q1 := B0.cell 1
  have hb := (Below.refl w.heap.size w).alloc (Nat.le_refl _) (.cells #[.string a, .string b] 41)
  have p0 := hb_cell hb hx1
  have p1 := hb_cell hb hx2
  have E : (decide (cmpT a x1 ≤ 0) && decide (cmpT x2 b ≤ 0)) = (leT a x1 && leT x2 b) := rfl
  rw [E]
  clear B0 E hx1 hx2
  cases h1 : leT a x1 <;> cases h2 : leT x2 b
  all_goals
    go_enter Try.func57, Try.ntmps57
    go_wp2_with fail
    go_ret
    exact ⟨rfl, hb⟩

/-- How spans are sorted. -/
def cmpP (a b : Sp) : Int := orL [cmpT a.1 b.1, cmpT a.2 b.2]
end Go.Proofs.Ytomefcngaclehaa
