/- Plain: rows of spans over any order: their sets, what is in them, and that a set has one row alone. No program is named here, and nothing is assumed. -/
import Derived.Test.YtfkooohnaodjmaaCmp
namespace Go.Proofs.Ytfkooohnaodjmaa
open Go.RowKit Go.Sort

section
variable {α : Type} {c : α → α → Int}
theorem Cmp.lt_le (h : Cmp c) {a b d : α} (h1 : c a b < 0) (h2 : c b d ≤ 0) : c a d < 0 := by
  have h3 := h.tr a b d (by omega) h2
  rcases Int.lt_or_eq_of_le h3 with h4 | h4
  · exact h4
  · have := h.zero (by omega) h2 h4
    omega
theorem Cmp.le_lt (h : Cmp c) {a b d : α} (h1 : c a b ≤ 0) (h2 : c b d < 0) : c a d < 0 := by
  have h3 := h.tr a b d h1 (by omega)
  rcases Int.lt_or_eq_of_le h3 with h4 | h4
  · exact h4
  · have := h.zero h1 (by omega) h4
    omega
theorem Cmp.self (h : Cmp c) (a : α) : c a a = 0 := by have := h.anti a a; omega

/-- A text more in a row that rises, unless it is there. -/
def putR (c : α → α → Int) (s : α) : Bool → List α → List α
  | i, [] => if i then [] else [s]
  | i, x :: r => (if i = false ∧ c s x ≤ 0 then [s] else []) ++ ((if c s x = 0 then [] else [x]) ++ putR c s (i || decide (c s x ≤ 0)) r)
def Up (c : α → α → Int) (l : List α) : Prop := l.Pairwise fun a b => c a b < 0
theorem putR_true (h : Cmp c) (s : α) : ∀ l : List α, (∀ x ∈ l, c s x < 0) → putR c s true l = l
  | [], _ => rfl
  | x :: r, hl => by
    have h1 := hl x (List.mem_cons_self ..)
    have h2 := putR_true h s r fun y hy => hl y (List.mem_cons_of_mem _ hy)
    unfold putR
    rw [if_neg (by simp), if_neg (by omega), Bool.true_or, h2]
    rfl
theorem putR_len (s : α) : ∀ (i : Bool) (l : List α), (putR c s i l).length ≤ l.length + (if i then 0 else 1)
  | i, [] => by unfold putR; cases i <;> simp
  | i, x :: r => by
    have ih := putR_len s (i || decide (c s x ≤ 0)) r
    unfold putR
    simp only [List.length_append, List.length_cons]
    by_cases h1 : c s x ≤ 0
    · cases i
      · rw [if_pos ⟨rfl, h1⟩]
        simp [h1] at ih ⊢
        split <;> simp <;> omega
      · rw [if_neg (by simp)]
        simp [h1] at ih ⊢
        split <;> simp <;> omega
    · rw [if_neg (fun h => h1 h.2)]
      rw [if_neg (by omega)]
      simp [h1] at ih ⊢
      omega
theorem putR_mem (hz : ∀ a b, c a b = 0 → a = b) (s y : α) : ∀ (i : Bool) (l : List α), y ∈ putR c s i l → y = s ∨ y ∈ l
  | i, [] => by unfold putR; cases i <;> simp
  | i, x :: r => by
    intro hy
    unfold putR at hy
    rcases List.mem_append.1 hy with hy | hy
    · split at hy
      · exact .inl (List.mem_singleton.1 hy)
      · cases hy
    · rcases List.mem_append.1 hy with hy | hy
      · split at hy
        · cases hy
        · exact .inr (by rw [List.mem_singleton.1 hy]; exact List.mem_cons_self ..)
      · rcases putR_mem hz s y _ r hy with h | h
        · exact .inl h
        · exact .inr (List.mem_cons_of_mem _ h)
theorem putR_old (h : Cmp c) (hz : ∀ a b, c a b = 0 → a = b) (s y : α) : ∀ (i : Bool) (l : List α), y ∈ l → y ∈ putR c s i l ∨ (y = s)
  | i, x :: r, hy => by
    unfold putR
    rcases List.mem_cons.1 hy with rfl | hy
    · by_cases h0 : c s y = 0
      · exact .inr (hz _ _ h0).symm
      · exact .inl (by rw [if_neg h0]; simp)
    · rcases putR_old h hz s y (i || decide (c s x ≤ 0)) r hy with h1 | h1
      · exact .inl (List.mem_append_right _ (List.mem_append_right _ h1))
      · exact .inr h1
theorem putR_new (s : α) : ∀ l : List α, s ∈ putR c s false l
  | [] => by unfold putR; simp
  | x :: r => by
    unfold putR
    by_cases h1 : c s x ≤ 0
    · rw [if_pos ⟨rfl, h1⟩]; simp
    · have := putR_new s r
      rw [show (false || decide (c s x ≤ 0)) = false by simp [h1]]
      exact List.mem_append_right _ (List.mem_append_right _ this)
theorem putR_up (h : Cmp c) (hz : ∀ a b, c a b = 0 → a = b) (s : α) : ∀ l : List α, Up c l → Up c (putR c s false l)
  | [], _ => by unfold putR; exact List.pairwise_singleton _ _
  | x :: r, hl => by
    have hl' := List.pairwise_cons.1 hl
    unfold putR
    by_cases h1 : c s x ≤ 0
    · rw [if_pos ⟨rfl, h1⟩]
      have h2 : ∀ y ∈ r, c s y < 0 := fun y hy => h.le_lt h1 (hl'.1 y hy)
      rw [show (false || decide (c s x ≤ 0)) = true by simp [h1], putR_true h s r h2]
      by_cases h0 : c s x = 0
      · rw [if_pos h0]
        exact List.pairwise_cons.2 ⟨h2, hl'.2⟩
      · rw [if_neg h0]
        refine List.pairwise_cons.2 ⟨fun y hy => ?_, hl⟩
        rcases List.mem_cons.1 hy with rfl | hy
        · omega
        · exact h2 y hy
    · rw [if_neg (fun h9 => h1 h9.2), if_neg (by omega), show (false || decide (c s x ≤ 0)) = false by simp [h1]]
      refine List.pairwise_cons.2 ⟨fun y hy => ?_, putR_up h hz s r hl'.2⟩
      rcases putR_mem hz s y false r hy with rfl | hy
      · have := h.anti x y
        omega
      · exact hl'.1 y hy

/-- A span: from one up to ahead of another one. -/
abbrev Spn (α : Type) := α × α
def inS (c : α → α → Int) (s : Spn α) (k : α) : Bool := decide (c s.1 k ≤ 0) && decide (c k s.2 < 0)
def inL (c : α → α → Int) (l : List (Spn α)) (k : α) : Bool := l.any fun s => inS c s k
structure Canon (c : α → α → Int) (l : List (Spn α)) : Prop where
  up : l.Pairwise fun s t => c s.2 t.1 < 0
  some_ : ∀ s ∈ l, c s.1 s.2 < 0
theorem inS_true {s : Spn α} {k : α} : inS c s k = true ↔ c s.1 k ≤ 0 ∧ c k s.2 < 0 := by unfold inS; simp
theorem inL_true {l : List (Spn α)} {k : α} : inL c l k = true ↔ ∃ s ∈ l, c s.1 k ≤ 0 ∧ c k s.2 < 0 := by
  unfold inL
  rw [List.any_eq_true]
  exact ⟨fun ⟨s, h1, h2⟩ => ⟨s, h1, inS_true.1 h2⟩, fun ⟨s, h1, h2⟩ => ⟨s, h1, inS_true.2 h2⟩⟩
theorem inL_append (a b : List (Spn α)) (k : α) : inL c (a ++ b) k = (inL c a k || inL c b k) := by unfold inL; rw [List.any_append]
theorem inL_cons (s : Spn α) (b : List (Spn α)) (k : α) : inL c (s :: b) k = (inS c s k || inL c b k) := by unfold inL; rw [List.any_cons]
theorem inL_nil (k : α) : inL c [] k = false := rfl
theorem Canon.tail {x : Spn α} {l : List (Spn α)} (h : Canon c (x :: l)) : Canon c l := ⟨(List.pairwise_cons.1 h.up).2, fun s hs => h.some_ s (List.mem_cons_of_mem _ hs)⟩
theorem Canon.nil : Canon c ([] : List (Spn α)) := ⟨List.Pairwise.nil, fun _ h => by cases h⟩
/-- What is in the rest is behind the first one. -/
theorem Canon.behind (hc : Cmp c) {x : Spn α} {l : List (Spn α)} (h : Canon c (x :: l)) {k : α} (hk : inL c l k = true) : c x.2 k < 0 := by
  obtain ⟨s, h1, h2, h3⟩ := inL_true.1 hk
  exact hc.lt_le ((List.pairwise_cons.1 h.up).1 s h1) h2
theorem Canon.least (hc : Cmp c) {x : Spn α} {l : List (Spn α)} (h : Canon c (x :: l)) {k : α} (hk : inL c (x :: l) k = true) : c x.1 k ≤ 0 := by
  rw [inL_cons, Bool.or_eq_true] at hk
  rcases hk with hk | hk
  · exact (inS_true.1 hk).1
  · have h1 := h.behind hc hk
    have h2 := h.some_ x (List.mem_cons_self ..)
    have := hc.lt_le h2 (by omega : c x.2 k ≤ 0)
    omega
theorem Canon.first (hc : Cmp c) {x : Spn α} {l : List (Spn α)} (h : Canon c (x :: l)) : inL c (x :: l) x.1 = true := by
  have h2 := h.some_ x (List.mem_cons_self ..)
  rw [inL_cons, inS_true.2 ⟨by rw [hc.self]; exact Int.le_refl _, h2⟩, Bool.true_or]
theorem Canon.end_ (hc : Cmp c) {x : Spn α} {l : List (Spn α)} (h : Canon c (x :: l)) : inL c (x :: l) x.2 = false := by
  cases hk : inL c (x :: l) x.2 with
  | false => rfl
  | true =>
    rw [inL_cons, Bool.or_eq_true] at hk
    have h0 := hc.self x.2
    rcases hk with hk | hk
    · have := (inS_true.1 hk).2; omega
    · have := h.behind hc hk; omega
/-- A set has one row alone. -/
theorem canon_uniq (hc : Cmp c) (hz : ∀ a b, c a b = 0 → a = b) : ∀ (a b : List (Spn α)), Canon c a → Canon c b → (∀ k, inL c a k = inL c b k) → a = b
  | [], [], _, _, _ => rfl
  | [], y :: b, _, hb, h => by have h1 := h y.1; rw [hb.first hc, inL_nil] at h1; cases h1
  | x :: a, [], ha, _, h => by have h1 := h x.1; rw [ha.first hc, inL_nil] at h1; cases h1
  | x :: a, y :: b, ha, hb, h => by
    have e1 : x.1 = y.1 := by
      have h1 := hb.least hc (k := x.1) (by rw [← h]; exact ha.first hc)
      have h2 := ha.least hc (k := y.1) (by rw [h]; exact hb.first hc)
      have := hc.anti x.1 y.1
      exact hz _ _ (by omega)
    have hx := ha.some_ x (List.mem_cons_self ..)
    have hy := hb.some_ y (List.mem_cons_self ..)
    have e2 : x.2 = y.2 := by
      have h1 : ¬ c x.2 y.2 < 0 := fun h9 => by
        have h3 := ha.end_ hc
        rw [h, inL_cons, inS_true.2 ⟨by rw [← e1]; omega, h9⟩] at h3
        cases h3
      have h2 : ¬ c y.2 x.2 < 0 := fun h9 => by
        have h3 := hb.end_ hc
        rw [← h, inL_cons, inS_true.2 ⟨by rw [e1]; omega, h9⟩] at h3
        cases h3
      have := hc.anti x.2 y.2
      exact hz _ _ (by omega)
    have e3 : x = y := Prod.ext e1 e2
    subst e3
    congr 1
    refine canon_uniq hc hz a b ha.tail hb.tail fun k => ?_
    have hk := h k
    rw [inL_cons, inL_cons] at hk
    have ht : ∀ l : List (Spn α), Canon c (x :: l) → inL c l k = true → inS c x k = false := fun l hl h9 => by
      have h1 := hl.behind hc h9
      have h2 := hc.anti x.2 k
      unfold inS
      rw [show decide (c k x.2 < 0) = false by simp; omega, Bool.and_false]
    cases h1 : inL c a k with
    | true =>
      rw [ht a ha h1, h1] at hk
      simpa using hk
    | false =>
      cases h2 : inL c b k with
      | false => rfl
      | true => rw [ht b hb h2, h1, h2] at hk; cases hk

/-- The farther one of two. -/
def maxC (c : α → α → Int) (a b : α) : α := if c a b < 0 then b else a
def minC (c : α → α → Int) (a b : α) : α := if c b a < 0 then b else a
theorem maxC_le (hc : Cmp c) (a b k : α) : c (maxC c a b) k ≤ 0 ↔ c a k ≤ 0 ∧ c b k ≤ 0 := by
  unfold maxC
  split
  · rename_i h
    exact ⟨fun h1 => ⟨hc.tr a b k (by omega) h1, h1⟩, fun h1 => h1.2⟩
  · rename_i h
    have := hc.anti a b
    exact ⟨fun h1 => ⟨h1, hc.tr b a k (by omega) h1⟩, fun h1 => h1.1⟩
theorem maxC_lt (hc : Cmp c) (a b k : α) : c k (maxC c a b) < 0 ↔ c k a < 0 ∨ c k b < 0 := by
  unfold maxC
  split
  · rename_i h
    exact ⟨fun h1 => .inr h1, fun h1 => h1.elim (fun h2 => hc.lt_le h2 (by omega)) id⟩
  · rename_i h
    have := hc.anti a b
    exact ⟨fun h1 => .inl h1, fun h1 => h1.elim id (fun h2 => hc.lt_le h2 (by omega))⟩
theorem minC_lt (hc : Cmp c) (a b k : α) : c k (minC c a b) < 0 ↔ c k a < 0 ∧ c k b < 0 := by
  unfold minC
  split
  · rename_i h
    exact ⟨fun h1 => ⟨hc.lt_le h1 (by omega), h1⟩, fun h1 => h1.2⟩
  · rename_i h
    have := hc.anti b a
    exact ⟨fun h1 => ⟨h1, hc.lt_le h1 (by omega)⟩, fun h1 => h1.1⟩

/-- A span more, behind spans that rise. -/
def stepS (c : α → α → Int) (out : List (Spn α)) (s : Spn α) : List (Spn α) := match out.getLast? with
  | none => out ++ [s]
  | some t => if c s.1 t.2 ≤ 0 then out.dropLast ++ [(t.1, maxC c t.2 s.2)] else out ++ [s]
theorem stepS_nil (s : Spn α) : stepS c [] s = [s] := rfl
theorem stepS_last (D : List (Spn α)) (t s : Spn α) : stepS c (D ++ [t]) s = if c s.1 t.2 ≤ 0 then D ++ [(t.1, maxC c t.2 s.2)] else (D ++ [t]) ++ [s] := by
  unfold stepS
  simp
theorem last_cases (out : List (Spn α)) : out = [] ∨ ∃ D t, out = D ++ [t] := by
  cases h : out.getLast? with
  | none => exact .inl (List.getLast?_eq_none_iff.1 h)
  | some t =>
    obtain ⟨D, hD⟩ := List.getLast?_eq_some_iff.1 h
    exact .inr ⟨D, t, hD⟩
theorem step_ok (hc : Cmp c) (out : List (Spn α)) (s : Spn α) (hC : Canon c out) (hs : c s.1 s.2 < 0) (hle : ∀ t ∈ out, c t.1 s.1 ≤ 0) :
    Canon c (stepS c out s) ∧ (∀ k, inL c (stepS c out s) k = (inL c out k || inS c s k)) ∧ (∀ t ∈ stepS c out s, t.1 = s.1 ∨ ∃ t' ∈ out, t.1 = t'.1) := by
  rcases last_cases out with rfl | ⟨D, t, rfl⟩
  · rw [stepS_nil]
    refine ⟨⟨List.pairwise_singleton _ _, fun x hx => by rw [List.mem_singleton.1 hx]; exact hs⟩, fun k => by rw [inL_cons, inL_nil, Bool.or_false, Bool.false_or], fun x hx => .inl (by rw [List.mem_singleton.1 hx])⟩
  · rw [stepS_last]
    have hts := hle t (by simp)
    have htt := hC.some_ t (by simp)
    have hup := List.pairwise_append.1 hC.up
    split
    · rename_i h1
      refine ⟨⟨List.pairwise_append.2 ⟨hup.1, List.pairwise_singleton _ _, fun a ha b hb => ?_⟩, fun x hx => ?_⟩, fun k => ?_, fun x hx => ?_⟩
      · rw [List.mem_singleton.1 hb]
        exact hup.2.2 a ha t (by simp)
      · rcases List.mem_append.1 hx with hx | hx
        · exact hC.some_ x (by simp [hx])
        · rw [List.mem_singleton.1 hx]
          exact (maxC_lt hc _ _ _).2 (.inl htt)
      · rw [inL_append, inL_append, Bool.or_assoc]
        congr 1
        rw [inL_cons, inL_cons, inL_nil, Bool.or_false, Bool.or_false, Bool.eq_iff_iff, Bool.or_eq_true, inS_true, inS_true, inS_true]
        simp only
        rw [maxC_lt hc]
        have h2 := hc.tr t.1 s.1 k hts
        constructor
        · rintro ⟨h3, h4 | h4⟩
          · exact .inl ⟨h3, h4⟩
          · by_cases h5 : c s.1 k ≤ 0
            · exact .inr ⟨h5, h4⟩
            · have := hc.anti s.1 k
              exact .inl ⟨h3, hc.lt_le (by omega : c k s.1 < 0) h1⟩
        · rintro (⟨h3, h4⟩ | ⟨h3, h4⟩)
          · exact ⟨h3, .inl h4⟩
          · exact ⟨h2 h3, .inr h4⟩
      · rcases List.mem_append.1 hx with hx | hx
        · exact .inr ⟨x, by simp [hx], rfl⟩
        · rw [List.mem_singleton.1 hx]
          exact .inr ⟨t, by simp, rfl⟩
    · rename_i h1
      have h2 := hc.anti s.1 t.2
      have hlt : c t.2 s.1 < 0 := by omega
      refine ⟨⟨List.pairwise_append.2 ⟨hC.up, List.pairwise_singleton _ _, fun a ha b hb => ?_⟩, fun x hx => ?_⟩, fun k => ?_, fun x hx => ?_⟩
      · rw [List.mem_singleton.1 hb]
        rcases List.mem_append.1 ha with ha | ha
        · have h3 := hup.2.2 a ha t (by simp)
          exact hc.lt_le (hc.lt_le h3 (by omega : c t.1 t.2 ≤ 0)) (by omega)
        · rw [List.mem_singleton.1 ha]; exact hlt
      · rcases List.mem_append.1 hx with hx | hx
        · exact hC.some_ x hx
        · rw [List.mem_singleton.1 hx]; exact hs
      · rw [inL_append, inL_cons, inL_nil, Bool.or_false]
      · rcases List.mem_append.1 hx with hx | hx
        · exact .inr ⟨x, hx, rfl⟩
        · rw [List.mem_singleton.1 hx]; exact .inl rfl
theorem steps_ok (hc : Cmp c) : ∀ (L out : List (Spn α)), Canon c out → (∀ s ∈ L, c s.1 s.2 < 0) → L.Pairwise (fun s t => c s.1 t.1 ≤ 0) → (∀ t ∈ out, ∀ s ∈ L, c t.1 s.1 ≤ 0) →
    Canon c (L.foldl (stepS c) out) ∧ ∀ k, inL c (L.foldl (stepS c) out) k = (inL c out k || inL c L k)
  | [], out, h, _, _, _ => ⟨h, fun k => by rw [inL_nil, Bool.or_false]; rfl⟩
  | s :: L, out, h, hs, hp, hle => by
    obtain ⟨p1, p2⟩ := List.pairwise_cons.1 hp
    obtain ⟨h1, h2, h3⟩ := step_ok hc out s h (hs s (List.mem_cons_self ..)) (fun t ht => hle t ht s (List.mem_cons_self ..))
    obtain ⟨h4, h5⟩ := steps_ok hc L (stepS c out s) h1 (fun t ht => hs t (List.mem_cons_of_mem _ ht)) p2 (fun t ht u hu => by
      rcases h3 t ht with e | ⟨t', ht', e⟩
      · rw [e]; exact p1 u hu
      · rw [e]; exact hle t' ht' u (List.mem_cons_of_mem _ hu))
    rw [List.foldl_cons]
    refine ⟨h4, fun k => ?_⟩
    rw [h5, h2, inL_cons, Bool.or_assoc]

/-- What is in both of two rows. -/
def meetL (c : α → α → Int) : List (Spn α) → List (Spn α) → List (Spn α)
  | [], _ => []
  | _ :: _, [] => []
  | x :: a, y :: b => (maxC c x.1 y.1, minC c x.2 y.2) :: (if c x.2 y.2 < 0 then meetL c a (y :: b) else meetL c (x :: a) b)
termination_by a b => a.length + b.length
theorem meetL_nil (b : List (Spn α)) : meetL c [] b = [] := by rw [meetL]
theorem meetL_nil' (a : List (Spn α)) : meetL c a [] = [] := by cases a <;> rw [meetL]
theorem meetL_cons (x y : Spn α) (a b : List (Spn α)) : meetL c (x :: a) (y :: b) = (maxC c x.1 y.1, minC c x.2 y.2) :: (if c x.2 y.2 < 0 then meetL c a (y :: b) else meetL c (x :: a) b) := by rw [meetL]
theorem inL_meet (hc : Cmp c) (k : α) : ∀ (n : Nat) (a b : List (Spn α)), a.length + b.length ≤ n → Canon c a → Canon c b → inL c (meetL c a b) k = (inL c a k && inL c b k)
  | _, [], b, _, _, _ => by rw [meetL_nil, inL_nil, Bool.false_and]
  | _, x :: a, [], _, _, _ => by rw [meetL_nil', inL_nil, Bool.and_false]
  | n + 1, x :: a, y :: b, hn, ha, hb => by
    simp only [List.length_cons] at hn
    rw [meetL_cons, inL_cons]
    have hS : inS c (maxC c x.1 y.1, minC c x.2 y.2) k = (inS c x k && inS c y k) := by
      rw [Bool.eq_iff_iff, Bool.and_eq_true, inS_true, inS_true, inS_true]
      simp only
      rw [maxC_le hc, minC_lt hc]
      exact ⟨fun h => ⟨⟨h.1.1, h.2.1⟩, ⟨h.1.2, h.2.2⟩⟩, fun h => ⟨⟨h.1.1, h.2.1⟩, ⟨h.1.2, h.2.2⟩⟩⟩
    rw [hS, inL_cons, inL_cons]
    have hA := fun h9 => ha.behind hc (k := k) h9
    have hB := fun h9 => hb.behind hc (k := k) h9
    have x1 := @inS_true α c x k
    have y1 := @inS_true α c y k
    have ax := hc.anti x.2 k
    have ay := hc.anti y.2 k
    split
    · rename_i h1
      rw [inL_meet hc k n a (y :: b) (by simp only [List.length_cons]; omega) ha.tail hb, inL_cons]
      have hxb : inS c x k = true → inL c b k = true → False := fun h2 h3 => by
        have h4 := (x1.1 h2).2
        have h5 := hB h3
        have h6 := hc.lt_le h1 (by omega : c y.2 k ≤ 0)
        omega
      cases e1 : inS c x k <;> cases e2 : inS c y k <;> cases e3 : inL c a k <;> cases e4 : inL c b k <;> first | rfl | exact absurd (hxb e1 e4) (fun h => h)
    · rename_i h1
      rw [inL_meet hc k n (x :: a) b (by simp only [List.length_cons]; omega) ha hb.tail, inL_cons]
      have hya : inS c y k = true → inL c a k = true → False := fun h2 h3 => by
        have h4 := (y1.1 h2).2
        have h5 := hA h3
        have h6 := hc.anti x.2 y.2
        have h7 := hc.lt_le h4 (by omega : c y.2 x.2 ≤ 0)
        omega
      cases e1 : inS c x k <;> cases e2 : inS c y k <;> cases e3 : inL c a k <;> cases e4 : inL c b k <;> first | rfl | exact absurd (hya e2 e3) (fun h => h)
  | 0, x :: a, y :: b, hn, _, _ => by simp at hn

/-- One span without what is in a row. -/
def stepL (c : α → α → Int) (st : List (Spn α) × Spn α) (y : Spn α) : List (Spn α) × Spn α :=
  if c y.2 st.2.1 ≤ 0 ∨ 0 ≤ c y.1 st.2.2 then st else (st.1 ++ [(st.2.1, y.1)], (maxC c st.2.1 y.2, st.2.2))
def lessO (c : α → α → Int) (b : List (Spn α)) (out : List (Spn α)) (x : Spn α) : List (Spn α) := (b.foldl (stepL c) (out, x)).1 ++ [(b.foldl (stepL c) (out, x)).2]
def lessL (c : α → α → Int) (a b : List (Spn α)) : List (Spn α) := a.foldl (lessO c b) []
theorem inL_lessO (hc : Cmp c) (k : α) : ∀ (b out : List (Spn α)) (x : Spn α), Canon c b → inL c (lessO c b out x) k = (inL c out k || (inS c x k && !inL c b k))
  | [], out, x, _ => by
    show inL c (out ++ [x]) k = _
    rw [inL_append, inL_cons, inL_nil, Bool.or_false, Bool.not_false, Bool.and_true]
  | y :: b, out, x, hb => by
    have hB := fun h9 => hb.behind hc (k := k) h9
    have hy := hb.some_ y (List.mem_cons_self ..)
    have x1 := @inS_true α c x k
    have y1 := @inS_true α c y k
    show inL c ((b.foldl (stepL c) (stepL c (out, x) y)).1 ++ [(b.foldl (stepL c) (stepL c (out, x) y)).2]) k = _
    by_cases h1 : c y.2 x.1 ≤ 0 ∨ 0 ≤ c y.1 x.2
    · have e : stepL c (out, x) y = (out, x) := if_pos h1
      rw [e]
      show inL c (lessO c b out x) k = _
      rw [inL_lessO hc k b out x hb.tail, inL_cons]
      have hxy : inS c x k = true → inS c y k = true → False := fun h2 h3 => by
        obtain ⟨a1, a2⟩ := x1.1 h2
        obtain ⟨b1, b2⟩ := y1.1 h3
        rcases h1 with h1 | h1
        · have h5 := hc.lt_le b2 h1
          have := hc.anti x.1 k
          omega
        · have h5 := hc.le_lt b1 a2
          omega
      cases e1 : inS c x k <;> cases e2 : inS c y k <;> cases e3 : inL c b k <;> first | rfl | exact absurd (hxy e1 e2) (fun h => h)
    · have e : stepL c (out, x) y = (out ++ [(x.1, y.1)], (maxC c x.1 y.2, x.2)) := if_neg h1
      rw [e]
      show inL c (lessO c b (out ++ [(x.1, y.1)]) (maxC c x.1 y.2, x.2)) k = _
      rw [inL_lessO hc k b _ _ hb.tail, inL_append, inL_cons, inL_cons, inL_nil, Bool.or_false, Bool.or_assoc]
      congr 1
      have g1 := @inS_true α c (x.1, y.1) k
      have g2 := @inS_true α c (maxC c x.1 y.2, x.2) k
      simp only at g1 g2
      rw [maxC_le hc] at g2
      rw [not_or] at h1
      have hyx : c y.1 x.2 < 0 := by omega
      rw [Bool.eq_iff_iff, Bool.or_eq_true, Bool.and_eq_true, Bool.and_eq_true, g1, g2, x1]
      simp only [Bool.not_eq_true', Bool.or_eq_false_iff]
      have ak := hc.anti y.1 k
      have ak2 := hc.anti y.2 k
      constructor
      · rintro (⟨h2, h3⟩ | ⟨⟨⟨h2, h3⟩, h4⟩, h5⟩)
        · refine ⟨⟨h2, hc.lt_le h3 (by omega)⟩, ?_, ?_⟩
          · cases h9 : inS c y k with
            | false => rfl
            | true => have := (y1.1 h9).1; omega
          · cases h9 : inL c b k with
            | false => rfl
            | true =>
              have h6 := hB h9
              have h7 := hc.lt_le h6 (by omega : c k y.1 ≤ 0)
              have := hc.anti y.1 y.2
              omega
        · refine ⟨⟨h2, h4⟩, ?_, h5⟩
          cases h9 : inS c y k with
          | false => rfl
          | true => have := (y1.1 h9).2; omega
      · rintro ⟨⟨h2, h3⟩, h4, h5⟩
        by_cases h6 : c k y.1 < 0
        · exact .inl ⟨h2, h6⟩
        · refine .inr ⟨⟨⟨h2, ?_⟩, h3⟩, h5⟩
          by_cases h7 : c k y.2 < 0
          · have := y1.2 ⟨by omega, h7⟩
            rw [this] at h4
            cases h4
          · omega
theorem inL_less (hc : Cmp c) (k : α) (b : List (Spn α)) (hb : Canon c b) : ∀ (a out : List (Spn α)), inL c (a.foldl (lessO c b) out) k = (inL c out k || (inL c a k && !inL c b k))
  | [], out => by rw [inL_nil, Bool.false_and, Bool.or_false]; rfl
  | x :: a, out => by
    rw [List.foldl_cons, inL_less hc k b hb a, inL_lessO hc k b out x hb, inL_cons]
    cases inL c out k <;> cases inS c x k <;> cases inL c a k <;> cases inL c b k <;> rfl

/-- The spans of what a predicate tells, between bounds. -/
def sweepR (e : α) (P : α → Bool) : Option α → List α → List (Spn α)
  | none, [] => []
  | some f, [] => [(f, e)]
  | none, x :: r => if P x then sweepR e P (some x) r else sweepR e P none r
  | some f, x :: r => if P x then sweepR e P (some f) r else (f, x) :: sweepR e P none r
def geh (c : α → α → Int) : List α → α → Bool
  | [], _ => false
  | x :: _, k => decide (c x k ≤ 0)
def Alike (c : α → α → Int) (P : α → Bool) : List α → Prop
  | [] => True
  | x :: r => (∀ k, c x k ≤ 0 → geh c r k = false → P k = P x) ∧ (∀ y ∈ r, c x y < 0) ∧ (r = [] → P x = false) ∧ Alike c P r
theorem sweep_ok (hc : Cmp c) (e : α) (P : α → Bool) : ∀ r : List α, Alike c P r →
    (Canon c (sweepR e P none r) ∧ (∀ s ∈ sweepR e P none r, ∃ x ∈ r, s.1 = x) ∧ ∀ k, inL c (sweepR e P none r) k = (geh c r k && P k)) ∧
    (∀ f, r ≠ [] → (∀ x ∈ r, c f x < 0) → Canon c (sweepR e P (some f) r) ∧ (∀ s ∈ sweepR e P (some f) r, s.1 = f ∨ ∃ x ∈ r, s.1 = x) ∧ ∀ k, inL c (sweepR e P (some f) r) k = ((!geh c r k && decide (c f k ≤ 0)) || (geh c r k && P k)))
  | [], _ => ⟨⟨Canon.nil, fun _ h => (by cases h), fun k => rfl⟩, fun f h => absurd rfl h⟩
  | x :: r, hr => by
    obtain ⟨h1, h2, h3, h4⟩ := hr
    obtain ⟨⟨i1, i2, i3⟩, j⟩ := sweep_ok hc e P r h4
    have hg : ∀ k, geh c (x :: r) k = decide (c x k ≤ 0) := fun k => rfl
    have hgr : ∀ k, geh c r k = true → c x k ≤ 0 := fun k hk => by
      cases r with
      | nil => cases hk
      | cons y r =>
        have h5 : c y k ≤ 0 := of_decide_eq_true hk
        exact hc.tr x y k (by have := h2 y (List.mem_cons_self ..); omega) h5
    have hk0 : ∀ k, c x k ≤ 0 → geh c r k = false → P k = P x := h1
    refine ⟨?_, fun f _ hf => ?_⟩
    · cases hP : P x with
      | true =>
        have hne : r ≠ [] := fun h9 => by rw [h3 h9] at hP; cases hP
        obtain ⟨j1, j2, j3⟩ := j x hne h2
        have e0 : sweepR e P none (x :: r) = sweepR e P (some x) r := by show (if P x then _ else _) = _; rw [if_pos hP]
        rw [e0]
        refine ⟨j1, fun s hs => ?_, fun k => ?_⟩
        · rcases j2 s hs with h9 | ⟨y, hy, h9⟩
          · exact ⟨x, List.mem_cons_self .., h9⟩
          · exact ⟨y, List.mem_cons_of_mem _ hy, h9⟩
        · rw [j3, hg]
          cases hgk : geh c r k with
          | true =>
            have := hgr k hgk
            simp [this]
          | false =>
            by_cases hx : c x k ≤ 0
            · rw [hk0 k hx hgk, hP]; simp [hx]
            · simp [hx]
      | false =>
        have e0 : sweepR e P none (x :: r) = sweepR e P none r := by show (if P x then _ else _) = _; rw [if_neg (by rw [hP]; simp)]
        rw [e0]
        refine ⟨i1, fun s hs => ?_, fun k => ?_⟩
        · obtain ⟨y, hy, h9⟩ := i2 s hs
          exact ⟨y, List.mem_cons_of_mem _ hy, h9⟩
        · rw [i3, hg]
          cases hgk : geh c r k with
          | true =>
            have := hgr k hgk
            simp [this]
          | false =>
            by_cases hx : c x k ≤ 0
            · rw [hk0 k hx hgk, hP]; simp
            · simp [hx]
    · have hfx := hf x (List.mem_cons_self ..)
      cases hP : P x with
      | true =>
        have hne : r ≠ [] := fun h9 => by rw [h3 h9] at hP; cases hP
        obtain ⟨j1, j2, j3⟩ := j f hne (fun y hy => hf y (List.mem_cons_of_mem _ hy))
        have e0 : sweepR e P (some f) (x :: r) = sweepR e P (some f) r := by show (if P x then _ else _) = _; rw [if_pos hP]
        rw [e0]
        refine ⟨j1, fun s hs => ?_, fun k => ?_⟩
        · rcases j2 s hs with h9 | ⟨y, hy, h9⟩
          · exact .inl h9
          · exact .inr ⟨y, List.mem_cons_of_mem _ hy, h9⟩
        · rw [j3, hg]
          cases hgk : geh c r k with
          | true =>
            have := hgr k hgk
            simp [this]
          | false =>
            by_cases hx : c x k ≤ 0
            · have h7 := hc.tr f x k (by omega) hx
              rw [hk0 k hx hgk, hP]; simp [hx, h7]
            · simp [hx]
      | false =>
        have e0 : sweepR e P (some f) (x :: r) = (f, x) :: sweepR e P none r := by show (if P x then _ else _) = _; rw [if_neg (by rw [hP]; simp)]
        rw [e0]
        refine ⟨⟨List.pairwise_cons.2 ⟨fun s hs => ?_, i1.up⟩, fun s hs => ?_⟩, fun s hs => ?_, fun k => ?_⟩
        · obtain ⟨y, hy, h9⟩ := i2 s hs
          rw [h9]
          exact h2 y hy
        · rcases List.mem_cons.1 hs with rfl | hs
          · exact hfx
          · exact i1.some_ s hs
        · rcases List.mem_cons.1 hs with rfl | hs
          · exact .inl rfl
          · obtain ⟨y, hy, h9⟩ := i2 s hs
            exact .inr ⟨y, List.mem_cons_of_mem _ hy, h9⟩
        · rw [inL_cons, i3, hg]
          have e1 : inS c (f, x) k = (decide (c f k ≤ 0) && decide (c k x < 0)) := rfl
          rw [e1]
          have ax := hc.anti x k
          cases hgk : geh c r k with
          | true =>
            have h8 := hgr k hgk
            have : ¬ c k x < 0 := by omega
            simp [h8, this]
          | false =>
            by_cases hx : c x k ≤ 0
            · have h9 : ¬ c k x < 0 := by omega
              rw [hk0 k hx hgk, hP]; simp [hx, h9]
            · have h9 : c k x < 0 := by omega
              simp [hx, h9]

/-- All bounds of a row of spans. -/
def bnd (c : α → α → Int) (l : List (Spn α)) (out : List α) : List α := l.foldl (fun o s => putR c s.2 false (putR c s.1 false o)) out
theorem bnd_up (h : Cmp c) (hz : ∀ a b, c a b = 0 → a = b) : ∀ (l : List (Spn α)) (out : List α), Up c out → Up c (bnd c l out) ∧ (∀ y ∈ out, y ∈ bnd c l out) ∧ ∀ s ∈ l, s.1 ∈ bnd c l out ∧ s.2 ∈ bnd c l out
  | [], out, ho => ⟨ho, fun _ hy => hy, fun _ h => by cases h⟩
  | s :: l, out, ho => by
    obtain ⟨h1, h2, h3⟩ := bnd_up h hz l _ (putR_up h hz s.2 _ (putR_up h hz s.1 out ho))
    have old : ∀ y ∈ out, y ∈ putR c s.2 false (putR c s.1 false out) := fun y hy => by
      rcases putR_old h hz s.1 y false out hy with h4 | h4
      · rcases putR_old h hz s.2 y false _ h4 with h5 | h5
        · exact h5
        · rw [h5]; exact putR_new _ _
      · rw [h4]
        rcases putR_old h hz s.2 s.1 false _ (putR_new s.1 out) with h5 | h5
        · exact h5
        · rw [h5]; exact putR_new _ _
    refine ⟨h1, fun y hy => h2 y (old y hy), fun t ht => ?_⟩
    rcases List.mem_cons.1 ht with rfl | ht
    · refine ⟨h2 _ ?_, h2 _ (putR_new _ _)⟩
      rcases putR_old h hz t.2 t.1 false _ (putR_new t.1 out) with h5 | h5
      · exact h5
      · have h6 := putR_new (c := c) t.2 (putR c t.1 false out)
        rw [← h5] at h6
        rw [← h5]
        exact h6
    · exact h3 t ht
theorem bnd_len (c : α → α → Int) : ∀ (l : List (Spn α)) (out : List α), (bnd c l out).length ≤ out.length + 2 * l.length
  | [], out => by simp [bnd]
  | s :: l, out => by
    have h1 := bnd_len c l (putR c s.2 false (putR c s.1 false out))
    have h2 := putR_len (c := c) s.2 false (putR c s.1 false out)
    have h3 := putR_len (c := c) s.1 false out
    simp at h2 h3
    show (bnd c l (putR c s.2 false (putR c s.1 false out))).length ≤ _
    rw [List.length_cons]
    omega
theorem in_alike (hc : Cmp c) (l : List (Spn α)) {x k : α} (hxk : c x k ≤ 0) (hl : ∀ s ∈ l, (c s.1 x ≤ 0 ∨ c k s.1 < 0) ∧ (c s.2 x ≤ 0 ∨ c k s.2 < 0)) : inL c l k = inL c l x := by
  rw [Bool.eq_iff_iff, inL_true, inL_true]
  constructor
  · rintro ⟨s, hs, h1, h2⟩
    obtain ⟨h3, h4⟩ := hl s hs
    refine ⟨s, hs, ?_, hc.le_lt hxk h2⟩
    rcases h3 with h3 | h3
    · exact h3
    · have := hc.anti s.1 k; omega
  · rintro ⟨s, hs, h1, h2⟩
    obtain ⟨h3, h4⟩ := hl s hs
    refine ⟨s, hs, hc.tr _ _ _ h1 hxk, ?_⟩
    rcases h4 with h4 | h4
    · have := hc.anti s.2 x; omega
    · exact h4
theorem alike_of (hc : Cmp c) (a b : List (Spn α)) (f : Bool → Bool → Bool) (hf : f false false = false) : ∀ (A L : List α), Up c (A ++ L) → (∀ s ∈ a ++ b, s.1 ∈ A ++ L ∧ s.2 ∈ A ++ L) → Alike c (fun k => f (inL c a k) (inL c b k)) L
  | _, [], _, _ => trivial
  | A, x :: r, hu, hm => by
    have hu2 := List.pairwise_append.1 hu
    have hx := List.pairwise_cons.1 hu2.2.1
    have hbd : ∀ y ∈ A ++ x :: r, c y x ≤ 0 ∨ y ∈ r := fun y hy => by
      rcases List.mem_append.1 hy with hy | hy
      · exact .inl (by have := hu2.2.2 y hy x (List.mem_cons_self ..); omega)
      · rcases List.mem_cons.1 hy with rfl | hy
        · exact .inl (by rw [hc.self]; exact Int.le_refl _)
        · exact .inr hy
    have ih := alike_of hc a b f hf (A ++ [x]) r (by rw [List.append_assoc]; exact hu) (by rw [List.append_assoc]; exact hm)
    refine ⟨fun k hxk hg => ?_, hx.1, fun h0 => ?_, ih⟩
    · have hk : ∀ y ∈ r, c k y < 0 := fun y hy => by
        cases r with
        | nil => cases hy
        | cons z r =>
          have h1 : ¬ c z k ≤ 0 := of_decide_eq_false hg
          have h2 := hc.anti z k
          rcases List.mem_cons.1 hy with rfl | hy
          · omega
          · have h3 := (List.pairwise_cons.1 hx.2).1 y hy
            exact hc.lt_le (by omega : c k z < 0) (by omega)
      have hw : ∀ y ∈ A ++ x :: r, c y x ≤ 0 ∨ c k y < 0 := fun y hy => (hbd y hy).imp id (hk y)
      have e1 := in_alike hc a hxk fun s hs => ⟨hw _ (hm s (List.mem_append_left _ hs)).1, hw _ (hm s (List.mem_append_left _ hs)).2⟩
      have e2 := in_alike hc b hxk fun s hs => ⟨hw _ (hm s (List.mem_append_right _ hs)).1, hw _ (hm s (List.mem_append_right _ hs)).2⟩
      show f _ _ = f _ _
      rw [e1, e2]
    · subst h0
      have hno : ∀ l : List (Spn α), (∀ s ∈ l, s ∈ a ++ b) → inL c l x = false := fun l hl => by
        cases h9 : inL c l x with
        | false => rfl
        | true =>
          obtain ⟨s, hs, h1, h2⟩ := inL_true.1 h9
          rcases hbd s.2 (hm s (hl s hs)).2 with h3 | h3
          · have := hc.anti s.2 x; omega
          · cases h3
      show f _ _ = false
      rw [hno a (fun s hs => List.mem_append_left _ hs), hno b (fun s hs => List.mem_append_right _ hs), hf]
def kindF (n : Int) (x y : Bool) : Bool := (decide (n = 0) && (x || y)) || ((decide (n = 1) && x) && y) || ((decide (n = 2) && x) && !y)
/-- The spans of all that is in one of two, in both, or in one alone. -/
def bothL (c : α → α → Int) (e : α) (a b : List (Spn α)) (n : Int) : List (Spn α) := sweepR e (fun k => kindF n (inL c a k) (inL c b k)) none (bnd c b (bnd c a []))
theorem both_ok (hc : Cmp c) (hz : ∀ a b, c a b = 0 → a = b) (e : α) (a b : List (Spn α)) (n : Int) : Canon c (bothL c e a b n) ∧ ∀ k, inL c (bothL c e a b n) k = kindF n (inL c a k) (inL c b k) := by
  obtain ⟨u1, u2, u3⟩ := bnd_up hc hz a [] List.Pairwise.nil
  obtain ⟨v1, v2, v3⟩ := bnd_up hc hz b _ u1
  have hf : kindF n false false = false := by unfold kindF; simp
  have hm : ∀ s ∈ a ++ b, s.1 ∈ bnd c b (bnd c a []) ∧ s.2 ∈ bnd c b (bnd c a []) := fun s hs => by
    rcases List.mem_append.1 hs with hs | hs
    · exact ⟨v2 _ (u3 s hs).1, v2 _ (u3 s hs).2⟩
    · exact v3 s hs
  have hA : Alike c (fun k => kindF n (inL c a k) (inL c b k)) (bnd c b (bnd c a [])) := alike_of hc a b (kindF n) hf [] _ v1 hm
  obtain ⟨⟨i1, i2, i3⟩, -⟩ := sweep_ok hc e _ _ hA
  refine ⟨i1, fun k => ?_⟩
  show inL c (sweepR e _ none _) k = _
  rw [i3]
  cases hg : geh c (bnd c b (bnd c a [])) k with
  | true => rw [Bool.true_and]
  | false =>
    rw [Bool.false_and]
    have hno : ∀ l : List (Spn α), (∀ s ∈ l, s ∈ a ++ b) → inL c l k = false := fun l hl => by
      cases h9 : inL c l k with
      | false => rfl
      | true =>
        obtain ⟨s, hs, h1, h2⟩ := inL_true.1 h9
        have h3 := (hm s (hl s hs)).1
        cases hL : bnd c b (bnd c a []) with
        | nil => rw [hL] at h3; cases h3
        | cons z r =>
          rw [hL] at h3 hg v1
          have h4 : ¬ c z k ≤ 0 := of_decide_eq_false hg
          rcases List.mem_cons.1 h3 with h5 | h5
          · rw [h5] at h1; exact absurd h1 h4
          · have h6 := (List.pairwise_cons.1 v1).1 _ h5
            have h7 := hc.lt_le h6 h1
            omega
    rw [hno a (fun s hs => List.mem_append_left _ hs), hno b (fun s hs => List.mem_append_right _ hs), hf]

/-- Is all of a span in a row? -/
def covL (c : α → α → Int) (l : List (Spn α)) (x : Spn α) : Bool := decide (c x.2 x.1 ≤ 0) || l.any fun y => decide (c y.1 x.1 ≤ 0) && decide (c x.2 y.2 ≤ 0)
theorem cov_iff (hc : Cmp c) (l : List (Spn α)) (x : Spn α) : Canon c l → (covL c l x = true ↔ ∀ k, inS c x k = true → inL c l k = true) := by
  intro hl
  unfold covL
  rw [Bool.or_eq_true, List.any_eq_true]
  simp only [Bool.and_eq_true, decide_eq_true_eq]
  constructor
  · rintro (h | ⟨y, hy, h1, h2⟩) k hk
    · obtain ⟨h3, h4⟩ := inS_true.1 hk
      have h5 := hc.lt_le h4 h
      have := hc.anti x.1 k
      omega
    · obtain ⟨h3, h4⟩ := inS_true.1 hk
      exact inL_true.2 ⟨y, hy, hc.tr _ _ _ h1 h3, hc.lt_le h4 h2⟩
  · intro h
    by_cases h0 : c x.2 x.1 ≤ 0
    · exact .inl h0
    · have a0 := hc.anti x.1 x.2
      have hx : inS c x x.1 = true := inS_true.2 ⟨by rw [hc.self]; exact Int.le_refl _, by omega⟩
      obtain ⟨y, hy, h1, h2⟩ := inL_true.1 (h _ hx)
      refine .inr ⟨y, hy, h1, ?_⟩
      by_cases h3 : c x.2 y.2 ≤ 0
      · exact h3
      · exfalso
        have a1 := hc.anti y.2 x.2
        have h4 := h y.2 (inS_true.2 ⟨by omega, by omega⟩)
        obtain ⟨z, hz, h5, h6⟩ := inL_true.1 h4
        obtain ⟨A, B, hAB⟩ := List.append_of_mem hy
        have hp := hl.up
        rw [hAB] at hp hz
        have hp2 := List.pairwise_append.1 hp
        rcases List.mem_append.1 hz with hz | hz
        · have h7 := hp2.2.2 z hz y (List.mem_cons_self ..)
          have h8 := hc.lt_le (hc.lt_le h6 (by omega : c z.2 y.1 ≤ 0)) (by have := hl.some_ y hy; omega : c y.1 y.2 ≤ 0)
          have := hc.self y.2
          omega
        · rcases List.mem_cons.1 hz with rfl | hz
          · have := hc.self z.2
            omega
          · have h7 := (List.pairwise_cons.1 hp2.2.1).1 z hz
            have h8 := hc.lt_le h7 h5
            have := hc.self y.2
            omega
theorem canon_none (hc : Cmp c) {l : List (Spn α)} (hl : Canon c l) : l = [] ↔ ∀ k, inL c l k = false := by
  constructor
  · rintro rfl k; rfl
  · intro h
    cases l with
    | nil => rfl
    | cons x l => have := h x.1; rw [hl.first hc] at this; cases this
/-- Is a text in a row, by the place where it would stand? -/
def plc (c : α → α → Int) (l : List (Spn α)) (k : α) : Nat := (l.takeWhile fun s => decide (c s.1 k < 0)).length
theorem plc_le (l : List (Spn α)) (k : α) : plc c l k ≤ l.length := (List.takeWhile_sublist _).length_le
def hasL (c : α → α → Int) (l : List (Spn α)) (k : α) : Bool :=
  (match l[plc c l k]? with | some s => decide (c s.1 k = 0) | none => false) || (match l.take (plc c l k) |>.getLast? with | some s => inS c s k | none => false)
theorem has_in (hc : Cmp c) (k : α) : ∀ l : List (Spn α), Canon c l → hasL c l k = inL c l k
  | [], _ => rfl
  | x :: l, hl => by
    have ih := has_in hc k l hl.tail
    have hx := hl.some_ x (List.mem_cons_self ..)
    have hB := fun h9 => hl.behind hc (k := k) h9
    rw [inL_cons]
    by_cases h1 : c x.1 k < 0
    · have e : plc c (x :: l) k = plc c l k + 1 := by unfold plc; simp [h1]
      unfold hasL
      rw [e]
      simp only [List.getElem?_cons_succ, List.take_succ_cons]
      unfold hasL at ih
      cases hp : plc c l k with
      | zero =>
        rw [hp] at ih
        simp only [List.take_zero, List.getLast?_nil] at ih ⊢
        have e2 : ([x] : List (Spn α)).getLast? = some x := rfl
        rw [e2]
        simp only
        rw [Bool.or_false] at ih
        rw [ih, Bool.or_comm]
      | succ n =>
        rw [hp] at ih
        have hne : l.take (n + 1) ≠ [] := fun h9 => by
          have h10 := congrArg List.length h9
          have h11 := plc_le (c := c) l k
          rw [hp] at h11
          rw [List.length_take, List.length_nil] at h10
          omega
        rw [List.getLast?_cons, List.getLast?_eq_some_getLast hne] at *
        simp only [Option.getD_some] at *
        rw [ih]
        have hxk : inS c x k = false := by
          cases h9 : inS c x k with
          | false => rfl
          | true =>
            have h10 := (inS_true.1 h9).2
            cases l with
            | nil => exact absurd (by simp) hne
            | cons y l =>
              have h11 : c y.1 k < 0 := by
                by_cases h12 : c y.1 k < 0
                · exact h12
                · have : plc c (y :: l) k = 0 := by unfold plc; simp [h12]
                  omega
              have h13 := (List.pairwise_cons.1 hl.up).1 y (List.mem_cons_self ..)
              have h14 := hc.lt_le (hc.lt_le h10 (by omega : c x.2 y.1 ≤ 0)) (by omega : c y.1 k ≤ 0)
              have := hc.self k
              omega
        rw [hxk, Bool.false_or]
    · have e : plc c (x :: l) k = 0 := by unfold plc; simp [h1]
      unfold hasL
      rw [e]
      simp only [List.getElem?_cons_zero, List.take_zero, List.getLast?_nil, Bool.or_false]
      have hl0 : inL c l k = false := by
        cases h9 : inL c l k with
        | false => rfl
        | true =>
          have h10 := hB h9
          have h11 := hc.lt_le hx (by omega : c x.2 k ≤ 0)
          omega
      rw [hl0, Bool.or_false]
      by_cases h2 : c x.1 k = 0
      · have h3 : c k x.2 < 0 := by have := hc.anti x.1 k; exact hc.le_lt (by omega : c k x.1 ≤ 0) hx
        unfold inS
        simp [h2, h3]
      · unfold inS
        simp [h2]
        intro h3
        omega
end
end Go.Proofs.Ytfkooohnaodjmaa
