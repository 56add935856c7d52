/- The chapter's example on mutations, and what is too great to be asked. -/
import Derived.Test.YthbhbechemnidaaDoorMutJ
import Derived.Test.YthbhbechemnidaaDoorMutP
import Derived.Test.YthbhbechemnidaaDoorBytesA
namespace Go.Proofs.YthbhbechemnidaaDoor
open Go.RowKit Go.Sort

def mutEx : Mut := ⟨1, 1, ⟨#[107]⟩, ⟨#[]⟩, ⟨#[]⟩, 0, (1, 0, 0), []⟩
theorem keyB_k : keyB ⟨#[107]⟩ = true := by decide +kernel
theorem valB_0 : valB ⟨#[]⟩ = true := by decide +kernel
theorem mutEx_rt : mrtB mutEx = true := mrtB_yes ⟨by decide, keyB_k, ⟨by decide, fun k h => absurd h (Nat.not_lt_zero _)⟩, by decide, by decide, fun h => absurd rfl h, fun h => absurd rfl h, valB_0, fun h => absurd h (by decide), fun _ => rfl, .inl ⟨rfl, rfl, by decide, by decide⟩⟩
theorem mutEx_in : MutI mutEx := { tab := by decide, kind := by decide, exp := by decide, at_ := by decide, ov := fun s h => (by cases h), key := by decide, en := by decide, val := by decide, len := by decide }
theorem mutEx_put : mput mutEx = [1, 107, 1, 1, 0, 0, 0, 1, 0, 0, 0] := by decide +kernel
theorem own_lit (w : World) (base : Nat) (hb : base ≤ w.heap.size) (cs : Array Value) (l : List UInt8) (hl : l.length ≤ 1000) (h : cs = (l.map vb).toArray) : Own (w.alloc (.cells cs 5)) base (.slice (some ⟨w.heap.size, 0, none⟩) l.length l.length) l := by
  subst h
  exact ⟨by simp, .inr ⟨w.heap.size, l.length, (l.map vb).toArray, rfl, hb, heap_alloc_new w _, Nat.le_refl _, by unfold maxLen; omega, by simp, by rw [Nat.mul_one]; simp [List.take_of_length_le]⟩⟩
theorem below_of_nil {w w' : World} (h : w.grownBy w' (Value.ownBlock (.slice none 0 0))) : Below w.heap.size w w' := ⟨h.os, h.tape, h.output, h.size, fun k hk => h.block k hk (by simp [Value.ownBlock])⟩
theorem reads_none (w : World) (B size : Nat) : Reads w B size none 0 [] := ⟨by simp, fun h => absurd h (Nat.lt_irrefl 0)⟩

set_option maxRecDepth 100000 in
set_option maxHeartbeats 4000000 in
theorem alive07 (w : World) (hT : Tabs w) : Calls Tryd.prog 32 #[] w fun e w' => e = .returned (.bool true) ∧ Below w.heap.size w w' := by
  have BK := Blk.new w 35 (mutC mutEx (.slice none 0 0))
  have hB : Below w.heap.size w (w.alloc (.cells (mutC mutEx (.slice none 0 0)) 35)) := (Below.refl _ _).alloc (Nat.le_refl _) _
  have HT := Lib.hid hT
  have cc : ∀ i, (w.alloc (.cells (mutC mutEx (.slice none 0 0)) 35)).cell? ⟨w.heap.size, i, none⟩ = (#[.int .i64 1, .int .i64 1, .string ⟨#[107]⟩, .string ⟨#[]⟩, .string ⟨#[]⟩, .int .i64 0, .int .i64 1, .int .i64 0, .int .i64 0, .slice none 0 0] : Array Value)[i]? := BK.cell
  have HP := Lib.hid mutEx_put
  clear hT
  go_enter Tryd.func32, Tryd.ntmps32
  go_wp2_with fail
  change Calls _ _ _ (w.alloc (.cells (mutC mutEx (.slice none 0 0)) 35)) _
  generalize (w.alloc (.cells (mutC mutEx (.slice none 0 0)) 35)) = W at *
  clear cc
  have CR := Lib.hid (mut_Right mutEx none 0 0 W (HT.out.in_ (Nat.le_refl _) hB) (reads_none _ _ _) (by decide) (by decide) (by decide) (by decide))
  rw [mutEx_rt] at CR
  refine CR.out.mono ?_
  clear CR
  rintro x w1 ⟨rfl, b1⟩
  replace BK := BK.below b1 BK.lt
  replace hB := hB.trans (b1.mono hB.size)
  clear b1
  have cc : ∀ i, w1.cell? ⟨w.heap.size, i, none⟩ = (#[.int .i64 1, .int .i64 1, .string ⟨#[107]⟩, .string ⟨#[]⟩, .string ⟨#[]⟩, .int .i64 0, .int .i64 1, .int .i64 0, .int .i64 0, .slice none 0 0] : Array Value)[i]? := BK.cell
  go_wp2_with fail
  clear cc
  refine (mut_Put w1 w1.heap.size (.slice none 0 0) [] mutEx none 0 0 (Own.nil_ _ _) (Nat.le_refl _) (reads_none _ _ _) mutEx_in (by simp)).mono ?_
  rintro x w2 ⟨v2, rfl, O2, G2, -⟩
  rw [List.nil_append, HP.out] at O2
  have b2 := below_of_nil G2
  replace hB := hB.trans (b2.mono hB.size)
  clear b2 G2 BK
  have hs2 := hB.size
  go_wp2_with fail
  refine (own_Equal (O2.alloc _) (own_lit w2 w.heap.size hs2 _ [1, 107, 1, 1, 0, 0, 0, 1, 0, 0, 0] (by decide) rfl) (by decide)).mono ?_
  rintro x w3 ⟨rfl, b3⟩
  have hB3 := (hB.alloc hB.size (.cells ([1, 107, 1, 1, 0, 0, 0, 1, 0, 0, 0].map vb).toArray 5)).trans (b3.mono (by rw [World.size_alloc]; omega))
  clear hB b3 O2
  go_wp2_with fail
  go_ret
  exact ⟨rfl, hB3⟩

/-- Too much to be asked. -/
def great7 (m : Mut) (n : Nat) : Bool := decide (500 < m.key.size ∨ 500 < m.en.size ∨ 500 < m.val.size ∨ 100 < n)
set_option maxRecDepth 100000 in
set_option maxHeartbeats 1000000 in
theorem law07_Great (m : Mut) (A : Option Addr) (n c : Nat) (w : World) : Calls Tryd.prog 24 #[.agg (mutC m (.slice A n c))] w fun e w' => e = .returned (.bool (great7 m n)) ∧ Below w.heap.size w w' := by
  have BK := Blk.new w 35 (mutC m (.slice A n c))
  have hB : Below w.heap.size w (w.alloc (.cells (mutC m (.slice A n c)) 35)) := (Below.refl _ _).alloc (Nat.le_refl _) _
  obtain ⟨Q, hQ⟩ : ∃ Q, great7 m n = Q := ⟨_, rfl⟩
  rw [hQ]
  have hw : (decide (500 < (m.key.size : Int)) = true ∧ Q = true) ∨ (decide (500 < (m.key.size : Int)) = false ∧ decide (500 < (m.en.size : Int)) = true ∧ Q = true) ∨ (decide (500 < (m.key.size : Int)) = false ∧ decide (500 < (m.en.size : Int)) = false ∧ decide (500 < (m.val.size : Int)) = true ∧ Q = true) ∨ (decide (500 < (m.key.size : Int)) = false ∧ decide (500 < (m.en.size : Int)) = false ∧ decide (500 < (m.val.size : Int)) = false ∧ decide (100 < (n : Int)) = Q) := by
    subst hQ
    unfold great7
    simp only [decide_eq_true_eq, decide_eq_false_iff_not, decide_eq_decide]
    omega
  clear hQ
  have c2 : (w.alloc (.cells (mutC m (.slice A n c)) 35)).cell? ⟨w.heap.size, 2, none⟩ = some (.string m.key) := BK.cell 2
  have c3 : (w.alloc (.cells (mutC m (.slice A n c)) 35)).cell? ⟨w.heap.size, 3, none⟩ = some (.string m.en) := BK.cell 3
  have c4 : (w.alloc (.cells (mutC m (.slice A n c)) 35)).cell? ⟨w.heap.size, 4, none⟩ = some (.string m.val) := BK.cell 4
  have c9 : (w.alloc (.cells (mutC m (.slice A n c)) 35)).cell? ⟨w.heap.size, 9, none⟩ = some (.slice A n c) := BK.cell 9
  rcases hw with ⟨d1, rfl⟩ | ⟨d1, d2, rfl⟩ | ⟨d1, d2, d3, rfl⟩ | ⟨d1, d2, d3, d4⟩
  all_goals
    go_enter Tryd.func24, Tryd.ntmps24
    go_wp2_with fail
    go_ret
    exact ⟨rfl, hB⟩
theorem great7_no {m : Mut} {n : Nat} (h : great7 m n = false) : m.key.size ≤ 500 ∧ m.en.size ≤ 500 ∧ m.val.size ≤ 500 ∧ n ≤ 100 := by
  unfold great7 at h
  have := of_decide_eq_false h
  omega
end Go.Proofs.YthbhbechemnidaaDoor
