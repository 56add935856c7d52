/- The plain law of trees of mutations: their order is linear; what stands in it, from a key on, of a key; how deep a tree may be. No function of the program is named here, and nothing is assumed. -/
import Derived.Test.YthbhbechemnidaaDoorMemX
import Derived.Test.YthbhbechemnidaaDoorCmp
namespace Go.Proofs.YthbhbechemnidaaDoor
open Go.RowKit Go.Sort

theorem mem_ins (m y : Mut) : ∀ l : List Mut, y ∈ (insM m l).1 → y = m ∨ y ∈ l
  | [], h => .inl (List.mem_singleton.1 h)
  | x :: l, h => by
    have h' : y ∈ (if cmpMem m x = 0 then (x :: l, false) else if cmpMem m x < 0 then (m :: x :: l, true) else (x :: (insM m l).1, (insM m l).2)).1 := h
    split at h'
    · exact .inr h'
    · split at h'
      · rcases List.mem_cons.1 h' with h | h
        · exact .inl h
        · exact .inr h
      · rcases List.mem_cons.1 h' with h | h
        · exact .inr (h ▸ List.mem_cons_self ..)
        · rcases mem_ins m y l h with h | h
          · exact .inl h
          · exact .inr (List.mem_cons_of_mem _ h)
theorem ins_sorted (m : Mut) : ∀ l : List Mut, SortM l → SortM (insM m l).1
  | [], _ => List.pairwise_singleton _ _
  | x :: l, h => by
    obtain ⟨h1, h2⟩ := List.pairwise_cons.1 h
    show SortM (if cmpMem m x = 0 then (x :: l, false) else if cmpMem m x < 0 then (m :: x :: l, true) else (x :: (insM m l).1, (insM m l).2)).1
    split
    · exact h
    · split
      · rename_i hlt
        refine List.pairwise_cons.2 ⟨fun y hy => ?_, h⟩
        rcases List.mem_cons.1 hy with rfl | hy
        · exact hlt
        · exact lt_tr hlt (Int.le_of_lt (h1 y hy))
      · refine List.pairwise_cons.2 ⟨fun y hy => ?_, ins_sorted m l h2⟩
        rcases mem_ins m y l hy with rfl | hy
        · have := cmp_Mem.anti x y
          omega
        · exact h1 y hy
theorem ins_len (m : Mut) : ∀ l : List Mut, (insM m l).1.length = if (insM m l).2 = true then l.length + 1 else l.length
  | [] => rfl
  | x :: l => by
    show (if cmpMem m x = 0 then (x :: l, false) else if cmpMem m x < 0 then (m :: x :: l, true) else (x :: (insM m l).1, (insM m l).2)).1.length = if (if cmpMem m x = 0 then (x :: l, false) else if cmpMem m x < 0 then (m :: x :: l, true) else (x :: (insM m l).1, (insM m l).2)).2 = true then l.length + 1 + 1 else l.length + 1
    have ih := ins_len m l
    split
    · rfl
    · split
      · rfl
      · show (insM m l).1.length + 1 = if (insM m l).2 = true then l.length + 1 + 1 else l.length + 1
        rw [ih]
        split <;> rfl
theorem way_sorted (m : Mut) : ∀ t : TT, SortM t.list → WayM m t
  | .nil, _ => trivial
  | .node g l e wt r, h => by
    obtain ⟨h1, h2, h3⟩ := List.pairwise_append.1 (show List.Pairwise (fun a b => cmpMem a b < 0) (l.list ++ e.m :: r.list) from h)
    refine ⟨way_sorted m l h1, way_sorted m r (List.pairwise_cons.1 h2).2, fun h0 a ha => ?_⟩
    have h4 := h3 a ha e.m (List.mem_cons_self ..)
    have h5 := cmp_Mem.anti m e.m
    have h6 := lt_tr h4 (show cmpMem e.m m ≤ 0 by omega)
    have h7 := cmp_Mem.anti a m
    omega

/-- What the law's put does, mutation by mutation: is it in? was it there? what there is so far. -/
def putS (m : Mut) (s : Bool × Bool × List Mut) (x : Mut) : Bool × Bool × List Mut :=
  if (!s.1 && decide (cmpMem m x < 0) && !(s.2.1 || decide (cmpMem m x = 0))) = true then (true, s.2.1 || decide (cmpMem m x = 0), s.2.2 ++ [m] ++ [x]) else (s.1, s.2.1 || decide (cmpMem m x = 0), s.2.2 ++ [x])
def putE (m : Mut) (s : Bool × Bool × List Mut) : List Mut × Bool := (if (!s.1 && !s.2.1) = true then s.2.2 ++ [m] else s.2.2, s.2.1)
theorem put_was (m : Mut) : ∀ (l : List Mut) (i : Bool) (o : List Mut), l.foldl (putS m) (i, true, o) = (i, true, o ++ l)
  | [], i, o => by simp
  | x :: l, i, o => by
    rw [List.foldl_cons]
    have : putS m (i, true, o) x = (i, true, o ++ [x]) := by unfold putS; simp
    rw [this, put_was m l i]
    simp
theorem put_in (m : Mut) : ∀ (l : List Mut) (o : List Mut), (∀ y ∈ l, cmpMem m y < 0) → l.foldl (putS m) (true, false, o) = (true, false, o ++ l)
  | [], o, _ => by simp
  | x :: l, o, h => by
    rw [List.foldl_cons]
    have h0 := h x (List.mem_cons_self ..)
    have : putS m (true, false, o) x = (true, false, o ++ [x]) := by unfold putS; simp; omega
    rw [this, put_in m l _ fun y hy => h y (List.mem_cons_of_mem _ hy)]
    simp
theorem put_sorted (m : Mut) : ∀ (l : List Mut) (o : List Mut), SortM l → putE m (l.foldl (putS m) (false, false, o)) = (o ++ (insM m l).1, !(insM m l).2)
  | [], o, _ => by simp [putE, insM]
  | x :: l, o, h => by
    obtain ⟨h1, h2⟩ := List.pairwise_cons.1 h
    rw [List.foldl_cons]
    show _ = (o ++ (if cmpMem m x = 0 then (x :: l, false) else if cmpMem m x < 0 then (m :: x :: l, true) else (x :: (insM m l).1, (insM m l).2)).1, !(if cmpMem m x = 0 then (x :: l, false) else if cmpMem m x < 0 then (m :: x :: l, true) else (x :: (insM m l).1, (insM m l).2)).2)
    by_cases h0 : cmpMem m x = 0
    · have : putS m (false, false, o) x = (false, true, o ++ [x]) := by unfold putS; simp [h0]
      rw [this, put_was, if_pos h0]
      simp [putE]
    · rw [if_neg h0]
      by_cases hlt : cmpMem m x < 0
      · have : putS m (false, false, o) x = (true, false, o ++ [m] ++ [x]) := by unfold putS; simp [h0, hlt]
        rw [this, put_in m l _ fun y hy => lt_tr hlt (Int.le_of_lt (h1 y hy)), if_pos hlt]
        simp [putE]
      · have : putS m (false, false, o) x = (false, false, o ++ [x]) := by unfold putS; simp [h0, hlt]
        rw [this, put_sorted m l _ h2, if_neg hlt]
        simp

/-- Is it of a key? -/
def eqK (key : ByteArray) (m : Mut) : Bool := m.key.toList == key.toList
theorem geK_iff (key : ByteArray) (m : Mut) : geK key m = true ↔ key.toList ≤ m.key.toList := by
  unfold geK
  rw [bytesLess_eq, Bool.not_eq_true', decide_eq_false_iff_not]
  exact List.not_lt
theorem key_le {a b : Mut} (h : cmpMem a b < 0) : a.key.toList ≤ b.key.toList := by
  have h' : (if cmpT a.key b.key = 0 then orL [cmpM a b] else cmpT a.key b.key) < 0 := h
  refine (cmpT_le _ _).1 ?_
  split at h' <;> omega
theorem from_sorted (key : ByteArray) : ∀ t : TT, SortM t.list → t.from_ key = t.list.filter (geK key)
  | .nil, _ => rfl
  | .node g l e wt r, h => by
    obtain ⟨h1, h2, h3⟩ := List.pairwise_append.1 (show List.Pairwise (fun a b => cmpMem a b < 0) (l.list ++ e.m :: r.list) from h)
    show (if geK key e.m = true then l.from_ key ++ e.m :: r.from_ key else r.from_ key) = (l.list ++ e.m :: r.list).filter (geK key)
    rw [from_sorted key l h1, from_sorted key r (List.pairwise_cons.1 h2).2, List.filter_append, List.filter_cons]
    by_cases hk : geK key e.m = true
    · rw [if_pos hk, if_pos hk]
    · rw [if_neg hk, if_neg hk]
      have : l.list.filter (geK key) = [] := by
        rw [List.filter_eq_nil_iff]
        intro a ha hk2
        exact hk ((geK_iff _ _).2 (List.le_trans ((geK_iff _ _).1 hk2) (key_le (h3 a ha e.m (List.mem_cons_self ..)))))
      rw [this, List.nil_append]
theorem key_sorted (key : ByteArray) : ∀ l : List Mut, SortM l → (l.filter (geK key)).takeWhile (eqK key) = l.filter (eqK key)
  | [], _ => rfl
  | x :: l, h => by
    obtain ⟨h1, h2⟩ := List.pairwise_cons.1 h
    have ih := key_sorted key l h2
    rw [List.filter_cons, List.filter_cons]
    by_cases he : eqK key x = true
    · have hg : geK key x = true := (geK_iff _ _).2 (by rw [eq_of_beq he]; exact List.le_refl _)
      rw [if_pos hg, if_pos he, List.takeWhile_cons, if_pos he, ih]
    · rw [if_neg he]
      by_cases hg : geK key x = true
      · rw [if_pos hg, List.takeWhile_cons, if_neg he]
        symm
        rw [List.filter_eq_nil_iff]
        intro y hy hey
        apply he
        have hyx := key_le (h1 y hy)
        have hey : y.key.toList = key.toList := eq_of_beq hey
        rw [hey] at hyx
        have := List.le_antisymm hyx ((geK_iff _ _).1 hg)
        unfold eqK
        rw [this]
        exact beq_self_eq_true _
      · rw [if_neg hg, ih]

/-- How deep a tree is. -/
def TT.deep : TT → Nat
  | .nil => 0
  | .node _ l _ _ r => 1 + max l.deep r.deep
theorem deep_le : ∀ t : TT, t.deep ≤ t.list.length
  | .nil => Nat.le_refl _
  | .node _ l e _ r => by
    have h1 := deep_le l
    have h2 := deep_le r
    show 1 + max l.deep r.deep ≤ (l.list ++ e.m :: r.list).length
    rw [List.length_append, List.length_cons]
    omega
theorem len_deep : ∀ t : TT, t.list.length < 2 ^ t.deep
  | .nil => by show 0 < 2 ^ 0; decide
  | .node _ l e _ r => by
    have h1 := len_deep l
    have h2 := len_deep r
    show (l.list ++ e.m :: r.list).length < 2 ^ (1 + max l.deep r.deep)
    rw [List.length_append, List.length_cons, Nat.pow_add]
    have h3 : 2 ^ l.deep ≤ 2 ^ max l.deep r.deep := Nat.pow_le_pow_right (by decide) (Nat.le_max_left _ _)
    have h4 : 2 ^ r.deep ≤ 2 ^ max l.deep r.deep := Nat.pow_le_pow_right (by decide) (Nat.le_max_right _ _)
    omega
/-- How many times a number is halved till it is none. -/
def blen (n : Nat) : Nat := if h : n = 0 then 0 else blen (n / 2) + 1
  decreasing_by omega
theorem blen_step (n : Nat) : blen n = if n = 0 then 0 else blen (n / 2) + 1 := by
  rw [blen]
  split <;> rfl
theorem blen_le : ∀ (d n : Nat), n < 2 ^ d → blen n ≤ d
  | 0, n, h => by
    have : n = 0 := by simpa using h
    rw [blen_step, if_pos this]
    exact Nat.le_refl _
  | d + 1, n, h => by
    rw [blen_step]
    split
    · omega
    · have := blen_le d (n / 2) (by rw [Nat.pow_succ] at h; omega)
      omega
end Go.Proofs.YthbhbechemnidaaDoor
