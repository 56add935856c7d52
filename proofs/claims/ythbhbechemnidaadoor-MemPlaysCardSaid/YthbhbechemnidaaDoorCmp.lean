/- The plain law of the order of mutations: it is linear. No function of the program is named here, and nothing is assumed. -/
import Derived.Test.YthbhbechemnidaaDoorMemA
namespace Go.Proofs.YthbhbechemnidaaDoor
open Go.RowKit Go.Sort

structure Cmp {α : Type} (f : α → α → Int) : Prop where
  anti : ∀ a b, f b a = - f a b
  tr : ∀ a b c, f a b ≤ 0 → f b c ≤ 0 → f a c ≤ 0
section
variable {α β : Type} {f g : α → α → Int}
theorem Cmp.zero (h : Cmp f) {a b c : α} (h1 : f a b ≤ 0) (h2 : f b c ≤ 0) (h3 : f a c = 0) : f a b = 0 ∧ f b c = 0 := by
  have e1 := h.anti a c
  have e2 := h.tr b c a h2 (by omega)
  have e3 := h.tr c a b (by omega) h1
  have e4 := h.anti a b
  have e5 := h.anti b c
  omega
theorem Cmp.lex (hf : Cmp f) (hg : Cmp g) : Cmp (fun a b => if f a b = 0 then g a b else f a b) where
  anti a b := by
    have h1 := hf.anti a b
    have h2 := hg.anti a b
    split <;> split <;> omega
  tr a b c := by
    intro h1 h2
    have k1 : f a b ≤ 0 := by split at h1 <;> omega
    have k2 : f b c ≤ 0 := by split at h2 <;> omega
    have k3 := hf.tr a b c k1 k2
    by_cases h0 : f a c = 0
    · obtain ⟨z1, z2⟩ := hf.zero k1 k2 h0
      rw [if_pos h0]
      rw [if_pos z1] at h1
      rw [if_pos z2] at h2
      exact hg.tr a b c h1 h2
    · rw [if_neg h0]
      exact k3
theorem Cmp.by_ (hf : Cmp f) (p : β → α) : Cmp (fun a b => f (p a) (p b)) := ⟨fun _ _ => hf.anti _ _, fun _ _ _ h1 h2 => hf.tr _ _ _ h1 h2⟩
theorem Cmp.none_ : Cmp (fun _ _ : α => 0) := ⟨fun _ _ => rfl, fun _ _ _ _ _ => Int.le_refl _⟩
end
theorem cmp_I : Cmp cmpI where
  anti a b := by unfold cmpI; split <;> split <;> omega
  tr a b c := by
    unfold cmpI
    intro h1 h2
    split at h1 <;> split at h2 <;> split <;> first | omega | (split <;> omega)
theorem cmpT_le (a b : ByteArray) : cmpT a b ≤ 0 ↔ a.toList ≤ b.toList := by
  rcases cmpT_cases a b with ⟨h, e⟩ | ⟨h, h2, e⟩ | ⟨h, h2, e⟩
  · rw [bytesLess_eq] at h
    have h := of_decide_eq_true h
    exact ⟨fun _ => List.le_of_lt h, fun _ => by omega⟩
  · rw [bytesLess_eq] at h
    have h := of_decide_eq_false h
    rw [beq_eq_false_iff_ne] at h2
    refine ⟨fun h9 => by omega, fun h9 => ?_⟩
    exact absurd (List.le_antisymm h9 (List.not_lt.1 h)) h2
  · have h2 := eq_of_beq h2
    rw [h2]
    exact ⟨fun _ => List.le_refl _, fun _ => by omega⟩
theorem cmpT_lt (a b : ByteArray) : cmpT a b < 0 ↔ a.toList < b.toList := by
  rcases cmpT_cases a b with ⟨h, e⟩ | ⟨h, h2, e⟩ | ⟨h, h2, e⟩
  · rw [bytesLess_eq] at h
    exact ⟨fun _ => of_decide_eq_true h, fun _ => by omega⟩
  · rw [bytesLess_eq] at h
    exact ⟨fun h9 => by omega, fun h9 => absurd h9 (of_decide_eq_false h)⟩
  · rw [bytesLess_eq] at h
    exact ⟨fun h9 => by omega, fun h9 => absurd h9 (of_decide_eq_false h)⟩
theorem cmp_T : Cmp cmpT where
  anti a b := by
    rcases cmpT_cases a b with ⟨h, e⟩ | ⟨h, h2, e⟩ | ⟨h, h2, e⟩
    · have h1 : ¬ cmpT b a ≤ 0 := fun h9 => by
        have := (cmpT_le b a).1 h9
        rw [bytesLess_eq] at h
        exact absurd (of_decide_eq_true h) (List.not_lt.2 this)
      rcases cmpT_cases b a with ⟨_, e2⟩ | ⟨_, _, e2⟩ | ⟨_, _, e2⟩ <;> omega
    · have h1 : cmpT b a < 0 := (cmpT_lt b a).2 (by
        rw [bytesLess_eq] at h
        rw [beq_eq_false_iff_ne] at h2
        rcases Classical.em (b.toList < a.toList) with h9 | h9
        · exact h9
        · exact absurd (List.le_antisymm (List.not_lt.1 h9) (List.not_lt.1 (of_decide_eq_false h))) h2)
      rcases cmpT_cases b a with ⟨_, e2⟩ | ⟨_, _, e2⟩ | ⟨_, _, e2⟩ <;> omega
    · have h2 := eq_of_beq h2
      rw [(cmpT_zero b a).2 h2.symm, e]
      rfl
  tr a b c h1 h2 := (cmpT_le a c).2 (List.le_trans ((cmpT_le a b).1 h1) ((cmpT_le b c).1 h2))
theorem cmp_3 : Cmp cmp3 := by
  have h := (cmp_I.by_ (fun s : Int × Int × Int => s.1)).lex ((cmp_I.by_ (fun s : Int × Int × Int => s.2.1)).lex (cmp_I.by_ (fun s : Int × Int × Int => s.2.2)))
  refine ⟨fun a b => ?_, fun a b c => ?_⟩
  · have := h.anti a b
    unfold cmp3 cmpS or3
    exact this
  · have := h.tr a b c
    unfold cmp3 cmpS or3
    exact this
theorem cmpR_anti : ∀ a b, cmpR b a = - cmpR a b
  | [], [] => rfl
  | [], _ :: _ => rfl
  | _ :: _, [] => rfl
  | a :: x, b :: y => by
    show (if cmp3 b a = 0 then cmpR y x else cmp3 b a) = - (if cmp3 a b = 0 then cmpR x y else cmp3 a b)
    have h1 := cmp_3.anti a b
    have h2 := cmpR_anti x y
    split <;> split <;> omega
theorem cmpR_tr : ∀ a b c, cmpR a b ≤ 0 → cmpR b c ≤ 0 → cmpR a c ≤ 0
  | [], _, [] => fun _ _ => by decide
  | [], _, _ :: _ => fun _ _ => by show (-1 : Int) ≤ 0; decide
  | _ :: _, [], _ => fun h _ => absurd h (by show ¬ (1 : Int) ≤ 0; decide)
  | _ :: _, _ :: _, [] => fun _ h => absurd h (by show ¬ (1 : Int) ≤ 0; decide)
  | a :: x, b :: y, c :: z => by
    show (if cmp3 a b = 0 then cmpR x y else cmp3 a b) ≤ 0 → (if cmp3 b c = 0 then cmpR y z else cmp3 b c) ≤ 0 → (if cmp3 a c = 0 then cmpR x z else cmp3 a c) ≤ 0
    intro h1 h2
    have k1 : cmp3 a b ≤ 0 := by split at h1 <;> omega
    have k2 : cmp3 b c ≤ 0 := by split at h2 <;> omega
    have k3 := cmp_3.tr a b c k1 k2
    by_cases h0 : cmp3 a c = 0
    · obtain ⟨z1, z2⟩ := cmp_3.zero k1 k2 h0
      rw [if_pos h0]
      rw [if_pos z1] at h1
      rw [if_pos z2] at h2
      exact cmpR_tr x y z h1 h2
    · rw [if_neg h0]
      exact k3
theorem cmp_R : Cmp cmpR := ⟨cmpR_anti, cmpR_tr⟩
theorem cmp_M : Cmp cmpM :=
  (cmp_3.by_ Mut.at_).lex ((cmp_I.by_ Mut.tab).lex ((cmp_I.by_ Mut.kind).lex ((cmp_T.by_ Mut.key).lex ((cmp_T.by_ Mut.en).lex ((cmp_T.by_ Mut.val).lex ((cmp_I.by_ Mut.exp).lex ((cmp_R.by_ Mut.ov).lex Cmp.none_)))))))
theorem cmp_Mem : Cmp cmpMem := (cmp_T.by_ Mut.key).lex (cmp_M.lex Cmp.none_)

/-- A row in a tree's order, each once. -/
def SortM (l : List Mut) : Prop := l.Pairwise fun a b => cmpMem a b < 0
theorem lt_tr {a b c : Mut} (h1 : cmpMem a b < 0) (h2 : cmpMem b c ≤ 0) : cmpMem a c < 0 := by
  have h3 := cmp_Mem.tr a b c (by omega) h2
  rcases Int.lt_or_eq_of_le h3 with h | h
  · exact h
  · have := (cmp_Mem.zero (by omega) h2 h).1
    omega
end Go.Proofs.YthbhbechemnidaaDoor
