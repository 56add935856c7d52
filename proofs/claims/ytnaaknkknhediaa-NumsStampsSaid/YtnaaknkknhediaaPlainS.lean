/- Plain lemmas on texts of three numbers with points between; no program is named here. -/
import Derived.Test.YtnaaknkknhediaaPlainB
namespace Go.Proofs.Ytnaaknkknhediaa

/-- What stands between points, one byte more. -/
def pStep (P : List (List UInt8)) (c : UInt8) : List (List UInt8) := if c = 46 then P ++ [[]] else P.dropLast ++ [P.getLast?.getD [] ++ [c]]
def partsFrom (P : List (List UInt8)) (l : List UInt8) : List (List UInt8) := l.foldl pStep P
def parts (l : List UInt8) : List (List UInt8) := partsFrom [[]] l
theorem parts_snoc (l : List UInt8) (c : UInt8) : parts (l ++ [c]) = pStep (parts l) c := by simp [parts, partsFrom]
theorem pStep_ne (P : List (List UInt8)) (c : UInt8) : pStep P c ≠ [] := by unfold pStep; split <;> simp
theorem partsFrom_ne : ∀ (l : List UInt8) (P : List (List UInt8)), P ≠ [] → partsFrom P l ≠ []
  | [], _, h => h
  | c :: l, P, _ => partsFrom_ne l (pStep P c) (pStep_ne P c)
theorem parts_ne (l : List UInt8) : parts l ≠ [] := partsFrom_ne l _ (by simp)
theorem pStep_len (P : List (List UInt8)) (c : UInt8) (h : P ≠ []) : (pStep P c).length = P.length + (if c = 46 then 1 else 0) := by
  unfold pStep
  split
  · simp
  · have := List.length_pos_iff.2 h
    simp; omega
theorem partsFrom_len : ∀ (l : List UInt8) (P : List (List UInt8)), P ≠ [] → P.length ≤ (partsFrom P l).length
  | [], _, _ => Nat.le_refl _
  | c :: l, P, h => by
    have h1 := partsFrom_len l (pStep P c) (pStep_ne P c)
    have h2 := pStep_len P c h
    show P.length ≤ (partsFrom (pStep P c) l).length
    split at h2 <;> omega
theorem parts_append (l m : List UInt8) : parts (l ++ m) = partsFrom (parts l) m := by simp [parts, partsFrom]
theorem pStep_mem (P : List (List UInt8)) (c x : UInt8) (h : ∃ p ∈ P, x ∈ p) : ∃ p ∈ pStep P c, x ∈ p := by
  obtain ⟨p, hp, hx⟩ := h
  unfold pStep
  split
  · exact ⟨p, by simp [hp], hx⟩
  · have hne : P ≠ [] := by intro e; rw [e] at hp; cases hp
    rw [← List.dropLast_concat_getLast hne] at hp
    rcases List.mem_append.1 hp with h1 | h1
    · exact ⟨p, by simp [h1], hx⟩
    · rw [List.mem_singleton] at h1
      refine ⟨_, List.mem_append_right _ (List.mem_singleton_self _), ?_⟩
      rw [List.getLast?_eq_some_getLast hne, ← h1]
      simp [hx]
theorem pStep_new (P : List (List UInt8)) (c : UInt8) (h : c ≠ 46) : ∃ p ∈ pStep P c, c ∈ p := by
  unfold pStep
  rw [if_neg h]
  exact ⟨_, List.mem_append_right _ (List.mem_singleton_self _), by simp⟩
theorem partsFrom_mem : ∀ (l : List UInt8) (P : List (List UInt8)) (x : UInt8), x ≠ 46 → (x ∈ l ∨ ∃ p ∈ P, x ∈ p) → ∃ p ∈ partsFrom P l, x ∈ p
  | [], _, _, _, h => by
    rcases h with h | h
    · cases h
    · exact h
  | c :: l, P, x, hx, h => by
    refine partsFrom_mem l (pStep P c) x hx ?_
    rcases h with h | h
    · rcases List.mem_cons.1 h with h1 | h1
      · right; subst h1; exact pStep_new P x hx
      · exact .inl h1
    · exact .inr (pStep_mem P c x h)

theorem parts_size (l : List UInt8) : (∀ p ∈ parts l, p.length ≤ l.length) ∧ (parts l).length ≤ l.length + 1 := by
  suffices h : ∀ (r l : List UInt8), l = r.reverse → (∀ p ∈ parts l, p.length ≤ l.length) ∧ (parts l).length ≤ l.length + 1 from h l.reverse l (by simp)
  intro r
  induction r with
  | nil => intro l hl; subst hl; exact ⟨by simp [parts, partsFrom], by simp [parts, partsFrom]⟩
  | cons x r ih =>
    intro l hl
    subst hl
    rw [List.reverse_cons, parts_snoc]
    obtain ⟨h1, h2⟩ := ih _ rfl
    have h3 := pStep_len (parts r.reverse) x (parts_ne _)
    constructor
    · intro p hp
      rw [List.length_append, List.length_singleton]
      unfold pStep at hp
      split at hp
      · rcases List.mem_append.1 hp with h | h
        · have := h1 p h; omega
        · rw [List.mem_singleton.1 h]; simp
      · rcases List.mem_append.1 hp with h | h
        · have := h1 p (List.dropLast_subset _ h); omega
        · rw [List.mem_singleton.1 h, List.getLast?_eq_some_getLast (parts_ne _)]
          have := h1 _ (List.getLast_mem (parts_ne r.reverse))
          simp only [Option.getD_some, List.length_append, List.length_singleton]; omega
    · rw [h3, List.length_append, List.length_singleton]
      split <;> omega
theorem parts_last (l : List UInt8) : ∃ R p, parts l = R ++ [p] ∧ ∀ c, c ≠ 46 → parts (l ++ [c]) = R ++ [p ++ [c]] := by
  have hne := parts_ne l
  refine ⟨(parts l).dropLast, (parts l).getLast hne, (List.dropLast_concat_getLast hne).symm, fun c hc => ?_⟩
  rw [parts_snoc]
  unfold pStep
  rw [if_neg hc, List.getLast?_eq_some_getLast hne]
  rfl

def all3 (a b c : List UInt8) : Option (Nat × Nat × Nat) := match rd a, rd b, rd c with | some x, some y, some z => some (x, y, z) | _, _, _ => none
/-- The three numbers of a text with two points, if they are some. -/
def rdS (l : List UInt8) : Option (Nat × Nat × Nat) := match parts l with | [a, b, c] => all3 a b c | _ => none
theorem all3_none {a b c : List UInt8} (h : rd a = none ∨ rd b = none ∨ rd c = none) : all3 a b c = none := by
  unfold all3
  rcases h with h | h | h
  · rw [h]
  · rw [h]; cases rd a <;> rfl
  · rw [h]; cases rd a <;> cases rd b <;> rfl
theorem all3_some {a b c : List UInt8} {x y z : Nat} (h0 : rd a = some x) (h1 : rd b = some y) (h2 : rd c = some z) : all3 a b c = some (x, y, z) := by unfold all3; rw [h0, h1, h2]
theorem rdS_len {l : List UInt8} (h : (parts l).length ≠ 3) : rdS l = none := by
  unfold rdS
  split
  · rename_i e; rw [e] at h; exact absurd rfl h
  · rfl
theorem rd_high {l : List UInt8} (h : ∃ c ∈ l, 128 ≤ c.toNat) : rd l = none := by
  obtain ⟨c, hc, h1⟩ := h
  refine rd_other (List.all_eq_false.2 ⟨c, hc, ?_⟩)
  intro h2
  have := (isD_iff c).1 h2
  omega
theorem rdS_high {l : List UInt8} (h : ∃ c ∈ l, 128 ≤ c.toNat) : rdS l = none := by
  obtain ⟨x, hx, h1⟩ := h
  obtain ⟨p, hp, hxp⟩ := partsFrom_mem l [[]] x (by intro e; rw [e] at h1; exact absurd h1 (by decide)) (.inl hx)
  have hpn : rd p = none := rd_high ⟨x, hxp, h1⟩
  change p ∈ parts l at hp
  unfold rdS
  split
  · rename_i a b c e
    rw [e] at hp
    refine all3_none ?_
    simp at hp
    rcases hp with rfl | rfl | rfl
    · exact .inl hpn
    · exact .inr (.inl hpn)
    · exact .inr (.inr hpn)
  · rfl

/-- While a text is read rune by rune: three parts, of which 'at' is the last begun; or a byte from 128 on has come. -/
def StInv (S : List UInt8) (k q : Nat) (L : List (List UInt8)) : Prop :=
  (k ≤ S.length ∧ parts (S.take k) = L.take (q + 1) ∧ ∀ i, q < i → i < 3 → L[i]? = some []) ∨ ((∃ c ∈ S, 128 ≤ c.toNat) ∧ ∃ l ∈ L, ∃ c ∈ l, 128 ≤ c.toNat)
theorem stInv_start (S : List UInt8) : StInv S 0 0 [[], [], []] :=
  .inl ⟨Nat.zero_le _, rfl, fun i h1 h2 => by match i, h1, h2 with | 1, _, _ => rfl | 2, _, _ => rfl⟩
theorem mem_set_self {α : Type} (L : List α) (q : Nat) (x : α) (h : q < L.length) : x ∈ L.set q x := List.mem_set h x
theorem bad_set {L : List (List UInt8)} {q : Nat} {m : List UInt8} (hq : q < L.length) (h : ∃ l ∈ L, ∃ c ∈ l, 128 ≤ c.toNat) : ∃ l ∈ L.set q (L[q] ++ m), ∃ c ∈ l, 128 ≤ c.toNat := by
  obtain ⟨l, hl, c, hc, h1⟩ := h
  obtain ⟨i, hi, rfl⟩ := List.getElem_of_mem hl
  by_cases he : i = q
  · subst he
    exact ⟨_, mem_set_self _ _ _ hi, c, List.mem_append_left _ hc, h1⟩
  · exact ⟨L[i], by
      have : (L.set q (L[q] ++ m))[i]'(by simpa using hi) = L[i] := List.getElem_set_ne (Ne.symm he) _
      rw [← this]
      exact List.getElem_mem _, c, hc, h1⟩
theorem stInv_add {S : List UInt8} {k q : Nat} {L : List (List UInt8)} (h : StInv S k q L) (hL : L.length = 3) (hq : q ≤ 2) (hk : k < S.length) (hc : S[k] ≠ 46) :
    StInv S (k + 1) q (L.set q (L[q]'(by omega) ++ [S[k]])) := by
  rcases h with ⟨_, h1, h2⟩ | ⟨h1, h2⟩
  · left
    refine ⟨hk, ?_, fun i hi hi3 => ?_⟩
    · rw [List.take_succ_eq_append_getElem hk, parts_snoc, h1]
      unfold pStep
      have e : L.take (q + 1) = L.take q ++ [L[q]'(by omega)] := List.take_succ_eq_append_getElem (by omega)
      rw [if_neg hc, e, List.dropLast_concat, List.getLast?_concat, List.take_set, List.take_succ_eq_append_getElem (by omega)]
      have hm : (L.take q).length = q := by simp; omega
      rw [List.set_append_right _ _ (by omega), hm, Nat.sub_self]
      rfl
    · rw [List.getElem?_set_ne (by omega)]
      exact h2 i hi hi3
  · exact .inr ⟨h1, bad_set (by omega) h2⟩
theorem stInv_high {S : List UInt8} {k k' q : Nat} {L : List (List UInt8)} {m : List UInt8} (hL : L.length = 3) (hq : q ≤ 2) (hk : k < S.length) (hc : 128 ≤ S[k].toNat) (hm : ∃ c ∈ m, 128 ≤ c.toNat) :
    StInv S k' q (L.set q (L[q]'(by omega) ++ m)) := by
  obtain ⟨c, hc1, hc2⟩ := hm
  exact .inr ⟨⟨_, List.getElem_mem hk, hc⟩, _, mem_set_self _ _ _ (by omega), c, List.mem_append_right _ hc1, hc2⟩
theorem stInv_dot {S : List UInt8} {k q : Nat} {L : List (List UInt8)} (h : StInv S k q L) (hL : L.length = 3) (hq : q < 2) (hk : k < S.length) (hc : S[k] = 46) : StInv S (k + 1) (q + 1) L := by
  rcases h with ⟨_, h1, h2⟩ | h
  · left
    refine ⟨hk, ?_, fun i hi hi3 => h2 i (by omega) hi3⟩
    have h3 := h2 (q + 1) (by omega) (by omega)
    rw [List.getElem?_eq_getElem (by omega)] at h3
    injection h3 with h3
    have e2 : L.take (q + 1 + 1) = L.take (q + 1) ++ [L[q + 1]'(by omega)] := List.take_succ_eq_append_getElem (by omega)
    rw [List.take_succ_eq_append_getElem hk, parts_snoc, h1, e2, h3]
    unfold pStep
    rw [if_pos hc]
  · exact .inr h
theorem stInv_four {S : List UInt8} {k : Nat} {L : List (List UInt8)} (h : StInv S k 2 L) (hL : L.length = 3) (hk : k < S.length) (hc : S[k] = 46) : rdS S = none := by
  rcases h with ⟨_, h1, _⟩ | ⟨h, _⟩
  · refine rdS_len ?_
    have e : S = S.take k ++ ([S[k]] ++ S.drop (k + 1)) := by
      conv => lhs; rw [← List.take_append_drop k S, List.drop_eq_getElem_cons hk]
      rfl
    have h4 : (parts (S.take k ++ [S[k]])).length = 4 := by
      rw [parts_snoc, pStep_len _ _ (parts_ne _), h1, if_pos hc]
      simp [hL]
    rw [e, ← List.append_assoc, parts_append]
    have := partsFrom_len (S.drop (k + 1)) _ (parts_ne (S.take k ++ [S[k]]))
    omega
  · exact rdS_high h
theorem stInv_end {S : List UInt8} {k q : Nat} {L : List (List UInt8)} {a b c : List UInt8} (h : StInv S k q L) (hL : L = [a, b, c]) (hq : q ≤ 2) (hk : S.length ≤ k) : rdS S = all3 a b c := by
  subst hL
  rcases h with ⟨_, h1, h2⟩ | ⟨h1, h2⟩
  · rw [List.take_of_length_le hk] at h1
    by_cases h3 : q = 2
    · subst h3
      unfold rdS
      rw [h1]; rfl
    · have h4 := h2 2 (by omega) (by omega)
      simp at h4
      subst h4
      rw [all3_none (.inr (.inr rd_nil))]
      refine rdS_len ?_
      rw [h1]
      simp
      omega
  · rw [rdS_high h1]
    obtain ⟨l, hl, hc⟩ := h2
    have hn := rd_high hc
    simp at hl
    refine (all3_none ?_).symm
    rcases hl with rfl | rfl | rfl
    · exact .inl hn
    · exact .inr (.inl hn)
    · exact .inr (.inr hn)

theorem partsFrom_digits : ∀ (m : List UInt8) (P : List (List UInt8)) (p : List UInt8), m.all isD = true → partsFrom (P ++ [p]) m = P ++ [p ++ m]
  | [], P, p, _ => by simp [partsFrom]
  | c :: m, P, p, h => by
    simp only [List.all_cons, Bool.and_eq_true] at h
    have hc : c ≠ 46 := by
      intro e
      have := (isD_iff c).1 h.1
      rw [e] at this
      exact absurd this (by decide)
    have e : pStep (P ++ [p]) c = P ++ [p ++ [c]] := by unfold pStep; rw [if_neg hc]; simp
    show partsFrom (pStep (P ++ [p]) c) m = _
    rw [e, partsFrom_digits m P (p ++ [c]) h.2]
    simp
theorem parts_three (a b c : List UInt8) (ha : a.all isD = true) (hb : b.all isD = true) (hc : c.all isD = true) : parts (a ++ [46] ++ b ++ [46] ++ c) = [a, b, c] := by
  have e1 : parts a = [a] := by have := partsFrom_digits a [] [] ha; simpa [parts] using this
  have e2 : parts (a ++ [46] ++ b) = [a, b] := by
    rw [parts_append, parts_snoc, e1]
    exact partsFrom_digits b [a] [] hb
  rw [parts_append, parts_snoc, e2]
  exact partsFrom_digits c [a, b] [] hc
end Go.Proofs.Ytnaaknkknhediaa
