/- Rows of places; slices.SortFunc over places: by the library's contract. Printed by gen/rngb.py. -/
import Derived.Test.YtncdchhpdbmfcaaDoorRngA
import Derived.Test.YtncdchhpdbmfcaaDoorKeep
import Derived.Test.YtncdchhpdbmfcaaDoorHang
import Derived.Test.YtncdchhpdbmfcaaDoorLayP
import Derived.Deep.CutRange
namespace Go.Proofs.YtncdchhpdbmfcaaDoor
open Go.RowKit Go.Sort Go.Shelf

theorem Cmp.lt_le {α : Type} {c : α → α → Int} (h : Cmp c) {a b d : α} (h1 : c a b < 0) (h2 : c b d ≤ 0) : c a d < 0 := by
  have h3 := h.tr a b d (by omega) h2
  rcases Int.lt_or_eq_of_le h3 with h4 | h4
  · exact h4
  · have := h.zero (by omega) h2 h4
    omega
theorem Cmp.self {α : Type} {c : α → α → Int} (h : Cmp c) (a : α) : c a a = 0 := by have := h.anti a a; omega
/-- A row of spans that the call owns. -/
def OwnU (T : TypeId) (w : World) (base : Nat) (v : Value) (C : List Pl) : Prop := w.ownsRow base T 2 v C.length (C.flatMap plL)
/-- A row of spans that can be read. -/
def RdU (w : World) (A : Option Addr) (C : List Pl) : Prop := Reads w w.heap.size 2 A C.length (C.flatMap plL)
theorem pl_len : ∀ C : List Pl, (C.flatMap plL).length = C.length * 2
  | [] => rfl
  | c :: C => by rw [List.flatMap_cons, List.length_append, pl_len C, List.length_cons]; show 2 + _ = _; omega
theorem pl_get : ∀ (C : List Pl) (k : Nat) (hk : k < C.length), (C.flatMap plL)[k * 2]? = some (.int .u32 (C[k].1 : Int)) ∧ (C.flatMap plL)[k * 2 + 1]? = some (.int .i64 (C[k].2 : Int))
  | c :: C, 0, _ => ⟨rfl, rfl⟩
  | c :: C, k + 1, hk => by
    have ih := pl_get C k (by simpa using hk)
    rw [show (k + 1) * 2 = (k * 2) + 1 + 1 by omega, show k * 2 + 1 + 1 + 1 = (k * 2 + 1) + 1 + 1 by omega]
    exact ih

section
variable {T : TypeId} {w w' : World} {base base' : Nat} {v : Value} {C : List Pl}
theorem OwnU.nil_ (T : TypeId) (w : World) (base : Nat) : OwnU T w base (.slice none 0 0) [] := World.ownsRow_nil _ _ _ _
theorem OwnU.below (h : OwnU T w base v C) (b : Below w.heap.size w w') : OwnU T w' base v C := own_below h b
theorem OwnU.base_le (h : OwnU T w base v C) (hb : base' ≤ base) : OwnU T w base' v C := own_base h hb
theorem OwnU.lt (h : OwnU T w base v C) : ∀ k, v.ownBlock = some k → base ≤ k ∧ k < w.heap.size := World.ownsRow.lt h
theorem OwnU.at_ {g c : Nat} (h : OwnU T w base (.slice (some ⟨g, 0, none⟩) C.length c) C) (k : Nat) (hk : k < C.length) : w.cell? ⟨g, k * 2, none⟩ = some (.int .u32 (C[k].1 : Int)) ∧ w.cell? ⟨g, k * 2 + 1, none⟩ = some (.int .i64 (C[k].2 : Int)) := by
  obtain ⟨h1, h2⟩ := pl_get C k hk
  have a1 := World.ownsRow.cells h (g := g) rfl _ _ h1
  have a2 := World.ownsRow.cells h (g := g) rfl _ _ h2
  rw [add_lit] at a1 a2
  rw [Nat.zero_add] at a1 a2
  exact ⟨a1, a2⟩
theorem OwnU.form (h : OwnU T w base v C) : ∃ A c, v = .slice A C.length c ∧ C.length ≤ c ∧ (A = none → c = 0) ∧ (0 < C.length → ∃ g, A = some ⟨g, 0, none⟩ ∧ base ≤ g ∧ g < w.heap.size) := by
  obtain ⟨A, c, rfl, hc, hA, hg⟩ := own_form h
  exact ⟨A, c, rfl, hc, hA, fun h0 => by obtain ⟨g, e, h1, h2, _⟩ := hg h0; exact ⟨g, e, h1, h2⟩⟩
theorem OwnU.reads (h : OwnU T w base v C) : ∃ A c, v = .slice A C.length c ∧ C.length ≤ c ∧ (A = none → c = 0) ∧ RdU w A C := by
  obtain ⟨A, c, hv, hc, hA, _⟩ := own_form h
  subst hv
  exact ⟨A, c, rfl, hc, hA, Reads.of_own h⟩
theorem RdU.below {A : Option Addr} (h : RdU w A C) (b : Below w.heap.size w w') : RdU w' A C := Reads.more (Reads.below h b) b.size
theorem RdU.at_ {A : Option Addr} (h : RdU w A C) (h0 : 0 < C.length) : ∃ b off, A = some ⟨b, off, none⟩ ∧ b < w.heap.size ∧ ∀ k (hk : k < C.length), w.cell? ⟨b, off + k * 2, none⟩ = some (.int .u32 (C[k].1 : Int)) ∧ w.cell? ⟨b, off + k * 2 + 1, none⟩ = some (.int .i64 (C[k].2 : Int)) := by
  obtain ⟨b, off, hA, hb, hc⟩ := Reads.formk h h0 (by decide)
  refine ⟨b, off, hA, hb, fun k hk => ?_⟩
  obtain ⟨h1, h2⟩ := pl_get C k hk
  exact ⟨hc _ _ h1, by rw [Nat.add_assoc]; exact hc _ _ h2⟩
theorem RdU.nil_ (w : World) (A : Option Addr) : RdU w A [] := ⟨by simp, fun h => absurd h (by simp)⟩
end
theorem pl_one (s : Pl) : ∀ u ∈ plL s, u.oneCell' = true := fun u hu => by simp only [plL, List.mem_cons, List.mem_nil_iff, or_false] at hu; rcases hu with rfl | rfl <;> rfl
theorem info_place : (Tryd.prog.info? 60).map (fun i => (i.zero, i.size, i.bytes)) = some (some (.agg #[.int .u32 0, .int .i64 0]), 2, 16) := by kernel_rfl
/-- append of a span. -/
theorem append_place {ops : Array Oper} {rest : List Oper} {o : Oper} {a : Act} {Q : Exit → Act → World → Prop} (w : World) (c0 : Pl) (u : Array Value) (hu : u.toList = plL c0) (t : TypeId) (hgd : o.guard = none) (sl x : Operand)
    (ho : o.op = .call { callee := .builtin .append, args := #[sl, x], argTypes := #[54, 54] }) (base : Nat) (v : Value) (S : List Pl) (hs : a.eval sl = v) (hown : OwnU 60 w base v S)
    (hx : a.eval x = .slice (some ⟨w.heap.size, 0, none⟩) 1 1) (hlen : S.length ≤ 1000000000) (hbase : base ≤ w.heap.size)
    (h : ∀ v' w', OwnU 60 w' base v' (S ++ [c0]) → w.grownBy w' v.ownBlock → LiesIn w v v' → wpList Tryd.prog ops Q rest (a.put o.dst v') w') :
    wpList Tryd.prog ops Q (o :: rest) a (w.alloc (.cells u t)) := by
  refine append_elem w u (plL c0) hu t hgd sl x 54 ho base 60 _ 2 16 Tryd.underlying54 info_place rfl (by decide) v S.length (S.flatMap plL) hs hown rfl (pl_one c0) hx (by unfold maxLen; omega) (by omega) hbase ?_
  intro v' w' h1 h2 h3
  refine h v' w' ?_ h2 h3
  unfold OwnU
  rw [List.flatMap_append, List.length_append]
  simpa using h1
/-- .. told from the world in which the element lies. -/
theorem append_place_a {ops : Array Oper} {rest : List Oper} {o : Oper} {a : Act} {Q : Exit → Act → World → Prop} (w : World) (c0 : Pl) (u : Array Value) (hu : u.toList = plL c0) (t : TypeId) (hgd : o.guard = none) (sl x : Operand)
    (ho : o.op = .call { callee := .builtin .append, args := #[sl, x], argTypes := #[54, 54] }) (base : Nat) (v : Value) (S : List Pl) (hs : a.eval sl = v) (hown : OwnU 60 w base v S)
    (hx : a.eval x = .slice (some ⟨w.heap.size, 0, none⟩) 1 1) (hlen : S.length ≤ 1000000000) (hbase : base ≤ w.heap.size)
    (h : ∀ v' w', OwnU 60 w' base v' (S ++ [c0]) → (w.alloc (.cells u t)).grownBy w' v.ownBlock → wpList Tryd.prog ops Q rest (a.put o.dst v') w') :
    wpList Tryd.prog ops Q (o :: rest) a (w.alloc (.cells u t)) := by
  refine append_elem_a w u (plL c0) hu t hgd sl x 54 ho base 60 _ 2 16 Tryd.underlying54 info_place rfl (by decide) v S.length (S.flatMap plL) hs hown rfl (pl_one c0) hx (by unfold maxLen; omega) (by omega) hbase ?_
  intro v' w' h1 h2
  refine h v' w' ?_ h2
  unfold OwnU
  rw [List.flatMap_append, List.length_append]
  simpa using h1
theorem swo_of {α : Type} {c : α → α → Int} (h : Cmp c) : SWO (ltOf c) where
  irrefl x := by
    unfold ltOf
    rw [h.self]
    rfl
  trans x y z h1 h2 := by
    unfold ltOf at *
    exact decide_eq_true (h.lt_le (of_decide_eq_true h1) (Int.le_of_lt (of_decide_eq_true h2)))
  ntrans x y z h1 h2 := by
    unfold ltOf at *
    have h1 := of_decide_eq_false h1
    have h2 := of_decide_eq_false h2
    have e1 := h.anti x y
    have e2 := h.anti y z
    have e3 := h.anti x z
    have := h.tr z y x (by omega) (by omega)
    exact decide_eq_false (by omega)
theorem cmpI_eq (a b : Int) (h : cmpI a b = 0) : a = b := by
  unfold cmpI at h
  split at h
  · omega
  · split at h <;> omega
theorem cmp_Pl : Cmp cmpPl := (cmp_I.by_ (fun p : Pl => (p.1 : Int))).lex ((cmp_I.by_ (fun p : Pl => (p.2 : Int))).lex Cmp.none_)
theorem cmpPl_eq (x y : Pl) (h : cmpPl x y = 0) : x = y := by
  unfold cmpPl orL orL orL at h
  split at h
  · rename_i h1
    split at h
    · rename_i h2
      exact Prod.ext (by have := cmpI_eq _ _ h1; omega) (by have := cmpI_eq _ _ h2; omega)
    · contradiction
  · contradiction
/-- Spans sorted. -/
def sortU (l : List Pl) : List Pl := l.mergeSort fun x y => !(ltOf cmpPl) y x
theorem sortU_perm (l : List Pl) : (sortU l).Perm l := List.mergeSort_perm _ _
theorem sortU_up (l : List Pl) : (sortU l).Pairwise fun s t => cmpPl s t ≤ 0 := by
  have h := List.pairwise_mergeSort (le := fun x y => !(ltOf cmpPl) y x) (fun a b c h1 h2 => by
    have := (swo_of cmp_Pl).ntrans c b a
    simp only [Bool.not_eq_true'] at h1 h2 ⊢
    exact this h2 h1) (fun a b => by
    unfold ltOf
    have := cmp_Pl.anti a b
    by_cases h : cmpPl a b < 0
    · simp only [decide_eq_true h]
      simp; omega
    · simp only [decide_eq_false h]
      simp) l
  refine h.imp fun {a b} h => ?_
  simp only [Bool.not_eq_true'] at h
  unfold ltOf at h
  have h := of_decide_eq_false h
  have := cmp_Pl.anti a b
  omega
theorem get_row {α : Type} [Inhabited α] (l : List α) (j : Nat) (hj : j < l.length) : l.toArray[j]! = l[j] := by
  rw [getElem!_pos l.toArray j (by simpa using hj)]
  simp
theorem pl_all (l : List Pl) (k r : Nat) (hk : k < l.length) (hr : r < 2) : (l.flatMap plL)[k * 2 + r]? = some (id (plL l.toArray[k]!)[r]!) := by
  obtain ⟨g0, g1⟩ := pl_get l k hk
  rw [get_row _ _ hk]
  rcases (by omega : r = 0 ∨ r = 1) with rfl | rfl
  · exact g0
  · exact g1
theorem holdsU_of {w : World} {b n c : Nat} {l : List Pl} {base : Nat} (h : OwnU 60 w base (.slice (some ⟨b, 0, none⟩) n c) l) (hn : l.length = n) : HoldsK plL 2 w b 0 l.toArray := by
  subst hn
  intro j hj
  rw [size_flatK] at hj
  have hjl : j < l.length * 2 := by simpa using hj
  obtain ⟨k, r, hr, rfl⟩ : ∃ k r, r < 2 ∧ j = k * 2 + r := ⟨j / 2, j % 2, by omega, by omega⟩
  have hc := World.ownsRow.cellAt h (k * 2 + r) (by omega)
  refine ⟨?_, by rw [Nat.zero_add]; exact World.ownsRow.frozenAt h _⟩
  rw [Nat.zero_add, hc, get_flatK _ _ _ _ (by simpa using hjl), show (k * 2 + r) / 2 = k by omega, show (k * 2 + r) % 2 = r by omega]
  exact pl_all l k r (by omega) hr
theorem rdU_of {w : World} {b : Nat} {l : List Pl} (hb : b < w.heap.size) (h : HoldsK plL 2 w b 0 l.toArray) : RdU w (some ⟨b, 0, none⟩) l := by
  refine ⟨pl_len l, fun _ => ⟨_, rfl, hb, fun j u hu => ?_⟩⟩
  have hj : j < l.length * 2 := by
    have := (List.getElem?_eq_some_iff.1 hu).1
    rwa [pl_len] at this
  obtain ⟨k, r, hr, rfl⟩ : ∃ k r, r < 2 ∧ j = k * 2 + r := ⟨j / 2, j % 2, by omega, by omega⟩
  obtain ⟨hc, -⟩ := h (k * 2 + r) (by rw [size_flatK]; simpa using hj)
  rw [get_flatK _ _ _ _ (by simpa using hj), show (k * 2 + r) / 2 = k by omega, show (k * 2 + r) % 2 = r by omega] at hc
  rw [add_lit, hc, ← hu]
  exact (pl_all l k r (by omega) hr).symm
theorem below_sorted {α : Type} [Inhabited α] {enc : α → List Value} {k : Nat} {w : World} {B b : Nat} (hB : B ≤ b) (hb : b < w.heap.size) (m : Nat) (d : Array α) (os : Array Obj) : Below B w (sortWorldK enc k w b 0 m d os) := by
  unfold sortWorldK putRowK putRow mapBlock
  refine ⟨rfl, rfl, rfl, ?_, fun q hq => ?_⟩
  · rw [size_grow]
    show w.heap.size ≤ (Array.modify w.heap b _).size + _
    rw [Array.size_modify]
    omega
  · show (Array.modify w.heap b _ ++ os)[q]? = w.heap[q]?
    rw [Array.getElem?_append_left (by rw [Array.size_modify]; omega), Array.getElem?_modify, if_neg (by omega)]

set_option maxRecDepth 100000 in
theorem places_Sort (v : Value) (l : List Pl) (w : World) (B base : Nat) (ho : OwnU 60 w base v l) (hBb : B ≤ base) (hB : B ≤ w.heap.size) (hn : l.length ≤ 1000000) :
    Calls Tryd.prog 29 #[v, .func (.func 30) #[] #[]] w fun e w' => e = .returned (.tuple #[]) ∧ ∃ A c, v = .slice A l.length c ∧ l.length ≤ c ∧ (A = none → c = 0) ∧ RdU w' A (sortU l) ∧ Below B w w' := by
  obtain ⟨A, c, rfl, hc, hA, hg⟩ := ho.form
  rcases Nat.eq_zero_or_pos l.length with h0 | h0
  · have hl := List.eq_nil_of_length_eq_zero h0
    subst hl
    have h := AnyF.slices_SortFunc_none (P := Tryd.prog) (ρ := Tryd.sortU_ren) Tryd.sortU A c (.func (.func 30) #[] #[]) w
    refine h.mono ?_
    rintro e w' ⟨rfl, rfl⟩
    exact ⟨rfl, A, c, rfl, hc, hA, by rw [show sortU [] = [] from List.mergeSort_nil]; exact RdU.nil_ _ _, Below.refl _ _⟩
  · obtain ⟨g, rfl, hg1, hg2⟩ := hg h0
    have eg : ∀ args w, (callFunc 30 args).run Tryd.prog w = .ok (.enter 30 args) w := enters_of Tryd.func30 (by kernel_rfl) rfl
    have h := AnyQ.slices_SortFunc_total (P := Tryd.prog) (ρ := Tryd.sortU_ren) Tryd.sortU 2 (fun _ => by kernel_rfl) (fun _ => by kernel_rfl) plL (fun _ => rfl) pl_one cmpPl (swo_of cmp_Pl) 30 #[] g 0 c l.toArray w eg
      (fun m os dk hs x y => new_cmp x.1 x.2 y.1 y.2 _) (holdsU_of ho rfl) hg2 (by simp; omega) (fun x y h1 h2 => by
        unfold ltOf at h1 h2
        have h1 := of_decide_eq_false h1
        have h2 := of_decide_eq_false h2
        have := cmp_Pl.anti x y
        exact cmpPl_eq x y (by omega))
    refine h.mono ?_
    rintro e w' ⟨rfl, m, os, rfl⟩
    refine ⟨rfl, _, c, rfl, hc, hA, ?_, below_sorted (Nat.le_trans hBb hg1) hg2 _ _ _⟩
    have hp : (sortU l).length = l.length := (sortU_perm l).length_eq
    have hd : ((l.toArray.toList.mergeSort fun x y => !(ltOf cmpPl) y x).toArray) = (sortU l).toArray := rfl
    rw [hd]
    refine rdU_of ?_ (holdsK_sortWorldK plL 2 w g 0 m l.toArray _ os hg2 (holdsU_of ho rfl) (by simpa using hp))
    exact Nat.lt_of_lt_of_le hg2 (below_sorted (B := 0) (Nat.zero_le _) hg2 m _ os).size
end Go.Proofs.YtncdchhpdbmfcaaDoor
