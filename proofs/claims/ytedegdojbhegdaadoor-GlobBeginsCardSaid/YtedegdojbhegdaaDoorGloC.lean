/- Rows of parts in memory; a text's runes as a slice; what New and parts keep. -/
import Derived.Test.YtedegdojbhegdaaDoorGloB
import Derived.Test.YtedegdojbhegdaaDoorRnK
import Derived.Laws.IdiomStrings
namespace Go.Proofs.YtedegdojbhegdaaDoor
open Go.RowKit Go.Sort

/-- A text's runes as a slice: its room, and the world behind it. -/
def rnC (s : ByteArray) (w : World) : Nat := grownCap w (rest s 0).length 0 21
def rnW (s : ByteArray) (w : World) : World := w.drew.alloc (.cells (((rest s 0).map rv).toArray ++ Array.replicate (rnC s w - (rest s 0).length) (.int .i32 0)) 21)
theorem conv_runes (s : ByteArray) (hs : s.size ≤ 70368744177664) (w : World) : (convert 9 41 (.string s)).run Tryd.prog w = .ok (.slice (some ⟨w.heap.size, 0, none⟩) (rest s 0).length (rnC s w)) (rnW s w) := by
  have hrl := rest_length s 0
  have hcv := run_runes_of_string (P := Tryd.prog) w 9 41 21 s Tryd.underlying9 Tryd.underlying41 Tryd.underlying21 (by rw [runes_all]; simp; omega)
  rw [runes_all] at hcv
  simp only [List.size_toArray, List.length_map] at hcv
  exact hcv
theorem rnW_size (s : ByteArray) (w : World) : (rnW s w).heap.size = w.heap.size + 1 := by unfold rnW; simp
theorem rnW_below (s : ByteArray) (w : World) : Below w.heap.size w (rnW s w) := (below_drewN (Below.refl _ _) 1).alloc (Nat.le_refl _) _
theorem rnW_cell (s : ByteArray) (w : World) (j r : Nat) (h : (rest s 0)[j]? = some r) : (rnW s w).cell? ⟨w.heap.size, j, none⟩ = some (rv r) := by
  have hB := Blk.new w.drew 21 (((rest s 0).map rv).toArray ++ Array.replicate (rnC s w - (rest s 0).length) (.int .i32 0))
  have hj := (List.getElem?_eq_some_iff.1 h).1
  have := hB.cell j
  rw [Array.getElem?_append_left (by simpa using hj)] at this
  refine Eq.trans this ?_
  simp [h]
theorem rnC_le (s : ByteArray) (w : World) : (rest s 0).length ≤ rnC s w := grownCap_ge w _ 0 _

/-- What is asked of a part that lies in memory. -/
def PS.small (e : PS) : Prop := e.n ≤ 1000000 ∧ e.p.kind ≤ 3 ∧ (e.p.kind = 3 → e.p.spans = []) ∧ (e.p.kind = 2 → e.p.spans = [])
/-- What the loop through a pattern's runes keeps of memory. -/
structure NwB (T : TypeId) (sz : Nat) (c : PS → List Value) (w : World) (RL : List Nat) (g5 base : Nat) (L : List PS) (v : Value) (wr : World) : Prop where
  own : wr.ownsRow base T sz v L.length (L.flatMap c)
  hang : Hangs 2 PS.A PS.n PS.x wr v.ownBlock L
  far : ∀ e ∈ L, ∀ ad, e.A = some ad → base ≤ ad.block ∧ ad.block < wr.heap.size
  small : ∀ e ∈ L, e.small
  runes : ∀ j r, RL[j]? = some r → wr.cell? ⟨g5, j, none⟩ = some (rv r)
  bel : Below w.heap.size w wr
  base_le : base ≤ wr.heap.size
  g5_lt : g5 < base
  base_ge : w.heap.size ≤ base
section
variable {T : TypeId} {sz : Nat} {c : PS → List Value} {w : World} {RL : List Nat} {g5 base : Nat} {L : List PS} {v : Value} {wr w1 : World}
theorem NwB.next (h : NwB T sz c w RL g5 base L v wr) (hb : Below wr.heap.size wr w1) : NwB T sz c w RL g5 base L v w1 where
  own := own_below h.own hb
  hang := h.hang.below hb
  far := fun e he ad ha => ⟨(h.far e he ad ha).1, Nat.lt_of_lt_of_le (h.far e he ad ha).2 hb.size⟩
  small := h.small
  runes := fun j r hj => hb_cell hb (h.runes j r hj)
  bel := h.bel.trans (hb.mono h.bel.size)
  base_le := Nat.le_trans h.base_le hb.size
  g5_lt := h.g5_lt
  base_ge := h.base_ge
theorem NwB.alloc (h : NwB T sz c w RL g5 base L v wr) (o : Obj) : NwB T sz c w RL g5 base L v (wr.alloc o) := h.next ((Below.refl _ _).alloc (Nat.le_refl _) o)
theorem NwB.drewN (h : NwB T sz c w RL g5 base L v wr) (m : Nat) : NwB T sz c w RL g5 base L v (wr.drewN m) := h.next (below_drewN (Below.refl _ _) m)
theorem NwB.row (h : NwB T sz c w RL g5 base L v wr) : Reads wr wr.heap.size 1 (some ⟨g5, 0, none⟩) RL.length (RL.map rv) :=
  ⟨by simp, fun _ => ⟨_, rfl, Nat.lt_of_lt_of_le h.g5_lt h.base_le, fun j u hu => by
    rw [List.getElem?_map] at hu
    cases hr : RL[j]? with
    | none => rw [hr] at hu; cases hu
    | some r =>
      rw [hr] at hu
      injection hu with hu
      subst hu
      rw [add_lit, Nat.zero_add]
      exact h.runes j r hr⟩⟩
theorem NwB.tail (h : NwB T sz c w RL g5 base L v wr) (k cap : Nat) (hk : k ≤ RL.length) (hc : RL.length ≤ cap) : (cap = k → Reads wr wr.heap.size 1 (some ⟨g5, 0, none⟩) (RL.length - k) ((RL.drop k).map rv)) ∧ (cap ≠ k → Reads wr wr.heap.size 1 (some ⟨g5, k, none⟩) (RL.length - k) ((RL.drop k).map rv)) := by
  have h1 := h.row.cut hk hc
  rw [Nat.mul_one, ← List.map_drop] at h1
  refine ⟨fun e => ?_, fun e => ?_⟩
  · rw [if_pos e] at h1; exact h1
  · rw [if_neg e] at h1
    simp only [Option.map_some, add_lit, Nat.zero_add] at h1
    exact h1
theorem NwB.own_ne (h : NwB T sz c w RL g5 base L v wr) {g : Nat} (hg : g < base) : v.ownBlock ≠ some g := fun e => by have := (World.ownsRow.lt h.own _ e).1; omega
theorem NwB.set (h : NwB T sz c w RL g5 base L v wr) {g : Nat} (hg : w.heap.size ≤ g) (hgb : g < base) (hne : g ≠ g5) (i : Nat) (u : Value) : NwB T sz c w RL g5 base L v (wr.setCell ⟨g, i, none⟩ u) where
  own := own_set1 h.own hgb i u
  hang := fun e he => ⟨reads_grown_ne (h.hang e he).1 (only_set1 wr g i u) (fun ad ha e1 => by have := (h.far e he ad ha).1; injection e1 with e1; omega), (h.hang e he).2⟩
  far := fun e he ad ha => ⟨(h.far e he ad ha).1, by have := (h.far e he ad ha).2; simpa using this⟩
  small := h.small
  runes := fun j r hj => by
    rw [World.cell?_setCell_other _ _ _ _ (fun e => hne (by injection e))]
    exact h.runes j r hj
  bel := below_set h.bel hg i u
  base_le := by have := h.base_le; simpa using this
  g5_lt := h.g5_lt
  base_ge := h.base_ge
theorem NwB.push {e : PS} {v6 : Value} {w6 : World} (h : NwB T sz c w RL g5 base L v w1) (hr : Reads w1 w1.heap.size 2 e.A e.n e.x) (hA : ∀ ad, e.A = some ad → base ≤ ad.block ∧ ad.block < w1.heap.size ∧ v.ownBlock ≠ some ad.block) (hs : e.small)
    (R6 : w6.ownsRow base T sz v6 (L ++ [e]).length ((L ++ [e]).flatMap c)) (hg : w1.grownBy w6 v.ownBlock) (hl : LiesIn w1 v v6) : NwB T sz c w RL g5 base (L ++ [e]) v6 w6 where
  own := R6
  hang := Hangs.moved (h.hang.snoc hr (fun ad ha => (hA ad ha).2.2)) hg hl (fun x hx ad ha => by
    rcases List.mem_append.1 hx with hx | hx
    · exact (h.far x hx ad ha).2
    · rw [List.mem_singleton.1 hx] at ha
      exact (hA ad ha).2.1)
  far := fun x hx ad ha => by
    rcases List.mem_append.1 hx with hx | hx
    · exact ⟨(h.far x hx ad ha).1, Nat.lt_of_lt_of_le (h.far x hx ad ha).2 hg.size⟩
    · rw [List.mem_singleton.1 hx] at ha
      exact ⟨(hA ad ha).1, Nat.lt_of_lt_of_le (hA ad ha).2.1 hg.size⟩
  small := fun x hx => by
    rcases List.mem_append.1 hx with hx | hx
    · exact h.small x hx
    · rw [List.mem_singleton.1 hx]
      exact hs
  runes := fun j r hj => by
    rw [← h.runes j r hj]
    exact World.cell?_of_block (hg.block g5 (Nat.lt_of_lt_of_le h.g5_lt h.base_le) (fun e1 => h.own_ne h.g5_lt e1.symm))
  bel := Below.grown h.bel hg h.bel.size (fun k hk => Nat.le_trans h.base_ge (World.ownsRow.lt h.own k hk).1)
  base_le := Nat.le_trans h.base_le hg.size
  g5_lt := h.g5_lt
  base_ge := h.base_ge
end

/-- How far a pattern's runes have been gone through. -/
def PtR (RL : List Nat) (i : Nat) (L : List PS) : Prop := i ≤ RL.length ∧ L.length ≤ i ∧ (pt (RL.drop i)).map (fun P => L.map PS.p ++ P) = pt RL
theorem PtR.zero (RL : List Nat) : PtR RL 0 [] := ⟨Nat.zero_le _, Nat.le_refl _, by rw [List.drop_zero]; cases pt RL <;> rfl⟩
theorem PtR.go {RL : List Nat} {i : Nat} {L : List PS} (h : PtR RL i L) (m : Nat) (e : PS) (hm : 1 ≤ m) (hl : i + m ≤ RL.length) (hp : pt (RL.drop i) = (pt (RL.drop (i + m))).map (e.p :: ·)) : PtR RL (i + m) (L ++ [e]) := by
  refine ⟨hl, by have := h.2.1; simp; omega, ?_⟩
  rw [← h.2.2, hp]
  cases pt (RL.drop (i + m)) <;> simp
theorem PtR.fail {RL : List Nat} {i : Nat} {L : List PS} (h : PtR RL i L) (hp : pt (RL.drop i) = none) : pt RL = none := by
  rw [← h.2.2, hp]
  rfl
theorem PtR.done {RL : List Nat} {i : Nat} {L : List PS} (h : PtR RL i L) (hi : ¬ i < RL.length) : pt RL = some (L.map PS.p) := by
  rw [← h.2.2, List.drop_of_length_le (by omega), pt_nil]
  simp
theorem pt_at {RL : List Nat} {i : Nat} (hi : i < RL.length) : pt (RL.drop i) = if RL[i] = 42 then (pt (RL.drop (i + 1))).map (⟨3, []⟩ :: ·) else if RL[i] = 63 then (pt (RL.drop (i + 1))).map (⟨2, []⟩ :: ·)
    else if RL[i] = 91 then (match classP (RL.drop (i + 1)) with | none => none | some (p, n) => (pt (RL.drop (i + (n + 1)))).map (p :: ·)) else (pt (RL.drop (i + 1))).map (⟨0, [(RL[i], RL[i])]⟩ :: ·) := by
  rw [List.drop_eq_getElem_cons hi, pt_cons]
  cases classP (RL.drop (i + 1)) with
  | none => rfl
  | some q =>
    obtain ⟨p, n⟩ := q
    simp only [List.drop_drop]
    rw [show i + 1 + n = i + (n + 1) by omega]
/-- The parts of a text that is a pattern. -/
def patP (s : ByteArray) : Option (List Part) := if 100 < s.size ∨ allRunes s = false then none else pt (rest s 0)
theorem info_gpart : (Tryd.prog.info? 76).map (fun i => (i.zero, i.size, i.bytes)) = some (some (.agg #[.bool false, .bool false, .bool false, .slice none 0 0]), 4, 32) := by kernel_rfl
theorem psL_one (e : PS) : ∀ u ∈ psL e, u.oneCell' = true := by
  intro u hu
  simp only [psL, List.mem_cons, List.mem_nil_iff, or_false] at hu
  rcases hu with rfl | rfl | rfl | rfl <;> rfl
theorem append_part {ops : Array Oper} {rest : List Oper} {o : Oper} {a : Act} {Q : Exit → Act → World → Prop} (w : World) (e : PS) (u : Array Value) (hu : u.toList = psL e) (t : TypeId) (hgd : o.guard = none) (sl x : Operand)
    (ho : o.op = .call { callee := .builtin .append, args := #[sl, x], argTypes := #[33, 33] }) (base : Nat) (v : Value) (L : List PS) (hs : a.eval sl = v) (hown : w.ownsRow base 76 4 v L.length (L.flatMap psL))
    (hx : a.eval x = .slice (some ⟨w.heap.size, 0, none⟩) 1 1) (hlen : L.length ≤ 1000000000) (hbase : base ≤ w.heap.size)
    (h : ∀ v' w', w'.ownsRow base 76 4 v' (L ++ [e]).length ((L ++ [e]).flatMap psL) → w.grownBy w' v.ownBlock → LiesIn w v v' → wpList Tryd.prog ops Q rest (a.put o.dst v') w') :
    wpList Tryd.prog ops Q (o :: rest) a (w.alloc (.cells u t)) := by
  refine append_elem w _ (psL e) hu t hgd sl x 33 ho base 76 _ 4 32 Tryd.underlying33 info_gpart rfl (by decide) v L.length (L.flatMap psL) hs hown rfl (psL_one e) hx (by unfold maxLen; omega) (by omega) hbase ?_
  intro v' w' h1 h2 h3
  refine h v' w' ?_ h2 h3
  rw [List.flatMap_append, List.length_append]
  simpa using h1
theorem append_part_b {ops : Array Oper} {rest : List Oper} {o : Oper} {a : Act} {Q : Exit → Act → World → Prop} (w : World) (e : PS) (u : Array Value) (hu : u.toList = psL e) (t : TypeId) (hgd : o.guard = none) (sl x : Operand)
    (ho : o.op = .call { callee := .builtin .append, args := #[sl, x], argTypes := #[33, 33] }) (base : Nat) (v : Value) (L : List PS) (hs : a.eval sl = v) (hown : w.ownsRow base 76 4 v L.length (L.flatMap psL))
    (hx : a.eval x = .slice (some ⟨w.heap.size, 0, none⟩) 1 1) (hlen : L.length ≤ 1000000000) (hbase : base ≤ w.heap.size)
    (h : ∀ v' w', w'.ownsRow base 76 4 v' (L ++ [e]).length ((L ++ [e]).flatMap psL) → (w.alloc (.cells u t)).grownBy w' v.ownBlock → LiesIn (w.alloc (.cells u t)) v v' → wpList Tryd.prog ops Q rest (a.put o.dst v') w') :
    wpList Tryd.prog ops Q (o :: rest) a (w.alloc (.cells u t)) := by
  refine append_elem_b w _ (psL e) hu t hgd sl x 33 ho base 76 _ 4 32 Tryd.underlying33 info_gpart rfl (by decide) v L.length (L.flatMap psL) hs hown rfl (psL_one e) hx (by unfold maxLen; omega) (by omega) hbase ?_
  intro v' w' h1 h2 h3
  refine h v' w' ?_ h2 h3
  rw [List.flatMap_append, List.length_append]
  simpa using h1
end Go.Proofs.YtedegdojbhegdaaDoor
