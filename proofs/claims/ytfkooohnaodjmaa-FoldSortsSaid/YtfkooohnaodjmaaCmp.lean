/- How numbers and texts stand; orders; contracts of cmp.Compare and cmp.Or. (As in the texts of mutations: never import both.) -/
import Derived.Test.YtfkooohnaodjmaaWords
import Derived.Lib.Hide
import Derived.Test.YtfkooohnaodjmaaBytesA
import Derived.StillTailTactics
import Derived.Laws.Cover1
import Derived.Sort.Walk0
namespace Go.Proofs.Ytfkooohnaodjmaa
open Go.RowKit Go.Sort

/-- How two numbers stand. -/
def cmpI (a b : Int) : Int := if a < b then -1 else if b < a then 1 else 0
theorem cmp_isNaN (a : Int) (w : World) : Calls Try.prog 58 #[.int .i64 a] w fun e w' => e = .returned (.bool false) ∧ w = w' := by
  go_enter Try.func58, Try.ntmps58
  go_wp2
  go_ret
  exact ⟨ret_bool' (by simp), rfl⟩

set_option maxRecDepth 100000 in
theorem cmp_Compare (a b : Int) (w : World) : Calls Try.prog 39 #[.int .i64 a, .int .i64 b] w fun e w' => e = .returned (.int .i64 (cmpI a b)) ∧ w = w' := by
  unfold cmpI
  have hcase : (decide (a < b) = true ∧ a < b) ∨ (decide (a < b) = false ∧ ¬ a < b ∧ decide (b < a) = true ∧ b < a) ∨ (decide (a < b) = false ∧ ¬ a < b ∧ decide (b < a) = false ∧ ¬ b < a) := by simp; omega
  rcases hcase with ⟨h1, h2⟩ | ⟨h1, h2, h3, h4⟩ | ⟨h1, h2, h3, h4⟩
  · rw [if_pos h2]
    clear h2
    go_enter Try.func39, Try.ntmps39
    go_wp2_with fail
    refine (cmp_isNaN a w).mono ?_
    rintro e w1 ⟨rfl, rfl⟩
    go_wp2_with fail
    refine (cmp_isNaN b w).mono ?_
    rintro e w1 ⟨rfl, rfl⟩
    go_wp2_with fail
    go_ret
    exact ⟨rfl, rfl⟩
  all_goals
    first | rw [if_neg h2, if_pos h4] | rw [if_neg h2, if_neg h4]
    clear h2 h4
    go_enter Try.func39, Try.ntmps39
    go_wp2_with fail
    refine (cmp_isNaN a w).mono ?_
    rintro e w1 ⟨rfl, rfl⟩
    go_wp2_with fail
    refine (cmp_isNaN b w).mono ?_
    rintro e w1 ⟨rfl, rfl⟩
    go_wp2_with fail
    go_ret
    exact ⟨rfl, rfl⟩

/-- How two texts stand. -/
def cmpT (a b : ByteArray) : Int := if Op.bytesLess a.toList b.toList = true then -1 else if (Op.bytesLess a.toList b.toList || a.toList == b.toList) = true then 0 else 1
theorem cmpT_zero (a b : ByteArray) : cmpT a b = 0 ↔ a.toList = b.toList := by
  unfold cmpT
  constructor
  · intro h
    split at h
    · simp at h
    · rename_i h1
      split at h
      · rename_i h2
        simp only [Bool.or_eq_true, beq_iff_eq] at h2
        rcases h2 with h2 | h2
        · exact absurd h2 h1
        · exact h2
      · simp at h
  · intro h
    rw [h, bytesLess_eq]
    simp
theorem cmpT_cases (a b : ByteArray) : (Op.bytesLess a.toList b.toList = true ∧ cmpT a b = -1) ∨ (Op.bytesLess a.toList b.toList = false ∧ (a.toList == b.toList) = false ∧ cmpT a b = 1) ∨ (Op.bytesLess a.toList b.toList = false ∧ (a.toList == b.toList) = true ∧ cmpT a b = 0) := by
  unfold cmpT
  cases h1 : Op.bytesLess a.toList b.toList
  · cases h2 : (a.toList == b.toList)
    · exact .inr (.inl ⟨rfl, rfl, by simp⟩)
    · exact .inr (.inr ⟨rfl, rfl, by simp⟩)
  · exact .inl ⟨rfl, by simp⟩

set_option maxRecDepth 100000 in
theorem cmp_isNaNS (a : ByteArray) (w : World) : Calls Try.prog 57 #[.string a] w fun e w' => e = .returned (.bool false) ∧ w = w' := by
  have he : (!(a.toList == a.toList)) = false := by simp
  go_enter Try.func57, Try.ntmps57
  go_wp2_with fail
  go_ret
  exact ⟨ret_bool' (by simp), rfl⟩
set_option maxRecDepth 100000 in
theorem cmp_CompareS (a b : ByteArray) (w : World) : Calls Try.prog 36 #[.string a, .string b] w fun e w' => e = .returned (.int .i64 (cmpT a b)) ∧ w = w' := by
  rcases cmpT_cases a b with ⟨h1, h2⟩ | ⟨h1, h2, h3⟩ | ⟨h1, h2, h3⟩
  case' inl => rw [h2]; clear h2
  case' inr.inl => rw [h3]; clear h3
  case' inr.inr => rw [h3]; clear h3
  all_goals
    go_enter Try.func36, Try.ntmps36
    go_wp2_with fail
    refine (cmp_isNaNS a w).mono ?_
    rintro e w1 ⟨rfl, rfl⟩
    go_wp2_with fail
    refine (cmp_isNaNS b w).mono ?_
    rintro e w1 ⟨rfl, rfl⟩
    go_wp2_with fail
    go_ret
    exact ⟨rfl, rfl⟩

theorem cmpI_cases (a b : Int) : (decide (a < b) = true ∧ cmpI a b = -1) ∨ (decide (a < b) = false ∧ decide (b < a) = true ∧ cmpI a b = 1) ∨ (decide (a < b) = false ∧ decide (b < a) = false ∧ cmpI a b = 0) := by
  unfold cmpI
  by_cases h : a < b
  · exact .inl ⟨by simpa using h, by rw [if_pos h]⟩
  · by_cases h2 : b < a
    · exact .inr (.inl ⟨by simpa using h, by simpa using h2, by rw [if_neg h, if_pos h2]⟩)
    · exact .inr (.inr ⟨by simpa using h, by simpa using h2, by rw [if_neg h, if_neg h2]⟩)
/-- The first number that is not 0. -/
def orL : List Int → Int
  | [] => 0
  | x :: l => if x = 0 then orL l else x
theorem orL_drop (l : List Int) (k : Nat) (hk : k < l.length) : orL (l.drop k) = if l[k] = 0 then orL (l.drop (k + 1)) else l[k] := by
  rw [List.drop_eq_getElem_cons hk]
  rfl
set_option maxRecDepth 100000 in
set_option maxHeartbeats 1000000 in
theorem cmp_Or (w : World) (g : Nat) (l : List Int) (n : Nat) (hl : l.length = n) (hc : ∀ (k : Nat) (x : Int), l[k]? = some x → w.cell? ⟨g, k, none⟩ = some (.int .i64 x)) (hn : n ≤ 1000000) :
    Calls Try.prog 38 #[.slice (some ⟨g, 0, none⟩) n n] w fun e w' => e = .returned (.int .i64 (orL l)) ∧ w = w' := by
  obtain ⟨R, hR⟩ : ∃ R, orL l = R := ⟨_, rfl⟩
  have HR := Lib.hid hR
  have HC := Lib.hid hc
  have HL := Lib.hid hl
  rw [hR]
  clear hR hc hl
  go_enter Try.func38, Try.ntmps38
  go_wp2_with fail
  go_loop [5, 8] (fun _ v8 => ∃ k : Nat, v8 = .int .i64 k ∧ k ≤ n ∧ orL (l.drop k) = R) (fun _ v8 => n - (RowKit.intOf v8).toNat)
  case atStart => exact ⟨0, rfl, Nat.zero_le _, by rw [List.drop_zero]; exact HR.out⟩
  case round =>
    obtain ⟨k, rfl, hk, hd⟩ := hrel
    have HD := Lib.hid hd
    clear hd
    by_cases hkn : k < n
    · have hkl : k < l.length := by have := HL.out; omega
      obtain ⟨x, hx⟩ : ∃ x, l[k]'hkl = x := ⟨_, rfl⟩
      have q := HC.out k x (by rw [List.getElem?_eq_getElem hkl, hx])
      have hst := orL_drop l k hkl
      rw [hx] at hst
      have HST := Lib.hid hst
      clear hst hx
      by_cases h0 : x = 0
      · have hne : (x != 0) = false := by simp [h0]
        have HX : Hid (orL (l.drop (k + 1)) = R) := Lib.hid (by rw [← HD.out, HST.out, if_pos h0])
        clear h0
        go_wp2_with fail
        go_round
        case rel => exact ⟨k + 1, by go_num, by omega, HX.out⟩
        case measure => simp [RowKit.intOf]; omega
      · have hne : (x != 0) = true := by simp [h0]
        have HX : Hid (x = R) := Lib.hid (by rw [← HD.out, HST.out, if_neg h0])
        clear h0
        go_wp2_with fail
        go_ret
        exact ⟨by rw [← HX.out]; rfl, rfl⟩
    · have HX : Hid (0 = R) := Lib.hid (by rw [← HD.out, List.drop_of_length_le (by rw [HL.out]; omega)]; rfl)
      go_wp2_with fail
      go_ret
      exact ⟨by rw [← HX.out]; rfl, rfl⟩
structure Cmp {α : Type} (f : α → α → Int) : Prop where
  anti : ∀ a b, f b a = - f a b
  tr : ∀ a b c, f a b ≤ 0 → f b c ≤ 0 → f a c ≤ 0
section
variable {α β : Type} {f g : α → α → Int}
theorem Cmp.zero (h : Cmp f) {a b c : α} (h1 : f a b ≤ 0) (h2 : f b c ≤ 0) (h3 : f a c = 0) : f a b = 0 ∧ f b c = 0 := by
  have e1 := h.anti a c
  have e2 := h.tr b c a h2 (by omega)
  have e3 := h.tr c a b (by omega) h1
  have e4 := h.anti a b
  have e5 := h.anti b c
  omega
theorem Cmp.lex (hf : Cmp f) (hg : Cmp g) : Cmp (fun a b => if f a b = 0 then g a b else f a b) where
  anti a b := by
    have h1 := hf.anti a b
    have h2 := hg.anti a b
    split <;> split <;> omega
  tr a b c := by
    intro h1 h2
    have k1 : f a b ≤ 0 := by split at h1 <;> omega
    have k2 : f b c ≤ 0 := by split at h2 <;> omega
    have k3 := hf.tr a b c k1 k2
    by_cases h0 : f a c = 0
    · obtain ⟨z1, z2⟩ := hf.zero k1 k2 h0
      rw [if_pos h0]
      rw [if_pos z1] at h1
      rw [if_pos z2] at h2
      exact hg.tr a b c h1 h2
    · rw [if_neg h0]
      exact k3
theorem Cmp.by_ (hf : Cmp f) (p : β → α) : Cmp (fun a b => f (p a) (p b)) := ⟨fun _ _ => hf.anti _ _, fun _ _ _ h1 h2 => hf.tr _ _ _ h1 h2⟩
theorem Cmp.none_ : Cmp (fun _ _ : α => 0) := ⟨fun _ _ => rfl, fun _ _ _ _ _ => Int.le_refl _⟩
end
theorem cmp_I : Cmp cmpI where
  anti a b := by unfold cmpI; split <;> split <;> omega
  tr a b c := by
    unfold cmpI
    intro h1 h2
    split at h1 <;> split at h2 <;> split <;> first | omega | (split <;> omega)
theorem cmpT_le (a b : ByteArray) : cmpT a b ≤ 0 ↔ a.toList ≤ b.toList := by
  rcases cmpT_cases a b with ⟨h, e⟩ | ⟨h, h2, e⟩ | ⟨h, h2, e⟩
  · rw [bytesLess_eq] at h
    have h := of_decide_eq_true h
    exact ⟨fun _ => List.le_of_lt h, fun _ => by omega⟩
  · rw [bytesLess_eq] at h
    have h := of_decide_eq_false h
    rw [beq_eq_false_iff_ne] at h2
    refine ⟨fun h9 => by omega, fun h9 => ?_⟩
    exact absurd (List.le_antisymm h9 (List.not_lt.1 h)) h2
  · have h2 := eq_of_beq h2
    rw [h2]
    exact ⟨fun _ => List.le_refl _, fun _ => by omega⟩
theorem cmpT_lt (a b : ByteArray) : cmpT a b < 0 ↔ a.toList < b.toList := by
  rcases cmpT_cases a b with ⟨h, e⟩ | ⟨h, h2, e⟩ | ⟨h, h2, e⟩
  · rw [bytesLess_eq] at h
    exact ⟨fun _ => of_decide_eq_true h, fun _ => by omega⟩
  · rw [bytesLess_eq] at h
    exact ⟨fun h9 => by omega, fun h9 => absurd h9 (of_decide_eq_false h)⟩
  · rw [bytesLess_eq] at h
    exact ⟨fun h9 => by omega, fun h9 => absurd h9 (of_decide_eq_false h)⟩
theorem cmp_T : Cmp cmpT where
  anti a b := by
    rcases cmpT_cases a b with ⟨h, e⟩ | ⟨h, h2, e⟩ | ⟨h, h2, e⟩
    · have h1 : ¬ cmpT b a ≤ 0 := fun h9 => by
        have := (cmpT_le b a).1 h9
        rw [bytesLess_eq] at h
        exact absurd (of_decide_eq_true h) (List.not_lt.2 this)
      rcases cmpT_cases b a with ⟨_, e2⟩ | ⟨_, _, e2⟩ | ⟨_, _, e2⟩ <;> omega
    · have h1 : cmpT b a < 0 := (cmpT_lt b a).2 (by
        rw [bytesLess_eq] at h
        rw [beq_eq_false_iff_ne] at h2
        rcases Classical.em (b.toList < a.toList) with h9 | h9
        · exact h9
        · exact absurd (List.le_antisymm (List.not_lt.1 h9) (List.not_lt.1 (of_decide_eq_false h))) h2)
      rcases cmpT_cases b a with ⟨_, e2⟩ | ⟨_, _, e2⟩ | ⟨_, _, e2⟩ <;> omega
    · have h2 := eq_of_beq h2
      rw [(cmpT_zero b a).2 h2.symm, e]
      rfl
  tr a b c h1 h2 := (cmpT_le a c).2 (List.le_trans ((cmpT_le a b).1 h1) ((cmpT_le b c).1 h2))
/-- How two rows stand, by how their elements stand. -/
def cmpL {α : Type} (f : α → α → Int) : List α → List α → Int
  | a :: x, b :: y => if f a b = 0 then cmpL f x y else f a b
  | [], [] => 0
  | [], _ :: _ => -1
  | _ :: _, [] => 1
theorem cmpL_step {α : Type} (f : α → α → Int) (l1 l2 : List α) (k : Nat) (h1 : k < l1.length) (h2 : k < l2.length) : cmpL f (l1.drop k) (l2.drop k) = if f l1[k] l2[k] = 0 then cmpL f (l1.drop (k + 1)) (l2.drop (k + 1)) else f l1[k] l2[k] := by
  rw [List.drop_eq_getElem_cons h1, List.drop_eq_getElem_cons h2]
  rfl
theorem cmpL_end {α : Type} (f : α → α → Int) (l1 l2 : List α) (k : Nat) (hk1 : k ≤ l1.length) (hk2 : k ≤ l2.length) (h : k = l1.length ∨ k = l2.length) : cmpL f (l1.drop k) (l2.drop k) = cmpI l1.length l2.length := by
  have e1 : (l1.drop k).length = l1.length - k := List.length_drop
  have e2 : (l2.drop k).length = l2.length - k := List.length_drop
  unfold cmpI
  cases h3 : l1.drop k with
  | nil =>
    rw [h3] at e1
    simp at e1
    cases h4 : l2.drop k with
    | nil =>
      rw [h4] at e2
      simp at e2
      rw [if_neg (by omega), if_neg (by omega)]
      rfl
    | cons b y =>
      rw [h4] at e2
      simp at e2
      rw [if_pos (by omega)]
      rfl
  | cons a x =>
    rw [h3] at e1
    simp at e1
    cases h4 : l2.drop k with
    | nil =>
      rw [h4] at e2
      simp at e2
      rw [if_neg (by omega), if_pos (by omega)]
      rfl
    | cons b y =>
      rw [h4] at e2
      simp at e2
      omega
theorem cmpL_anti {α : Type} {f : α → α → Int} (hf : Cmp f) : ∀ a b, cmpL f b a = - cmpL f a b
  | [], [] => rfl
  | [], _ :: _ => rfl
  | _ :: _, [] => rfl
  | a :: x, b :: y => by
    show (if f b a = 0 then cmpL f y x else f b a) = - (if f a b = 0 then cmpL f x y else f a b)
    have h1 := hf.anti a b
    have h2 := cmpL_anti hf x y
    split <;> split <;> omega
theorem cmpL_tr {α : Type} {f : α → α → Int} (hf : Cmp f) : ∀ a b c, cmpL f a b ≤ 0 → cmpL f b c ≤ 0 → cmpL f a c ≤ 0
  | [], _, [] => fun _ _ => by show (0 : Int) ≤ 0; decide
  | [], _, _ :: _ => fun _ _ => by show (-1 : Int) ≤ 0; decide
  | _ :: _, [], _ => fun h _ => absurd h (by show ¬ (1 : Int) ≤ 0; decide)
  | _ :: _, _ :: _, [] => fun _ h => absurd h (by show ¬ (1 : Int) ≤ 0; decide)
  | a :: x, b :: y, c :: z => by
    show (if f a b = 0 then cmpL f x y else f a b) ≤ 0 → (if f b c = 0 then cmpL f y z else f b c) ≤ 0 → (if f a c = 0 then cmpL f x z else f a c) ≤ 0
    intro h1 h2
    have k1 : f a b ≤ 0 := by split at h1 <;> omega
    have k2 : f b c ≤ 0 := by split at h2 <;> omega
    have k3 := hf.tr a b c k1 k2
    by_cases h0 : f a c = 0
    · obtain ⟨z1, z2⟩ := hf.zero k1 k2 h0
      rw [if_pos h0]
      rw [if_pos z1] at h1
      rw [if_pos z2] at h2
      exact cmpL_tr hf x y z h1 h2
    · rw [if_neg h0]
      exact k3
theorem cmp_L {α : Type} {f : α → α → Int} (hf : Cmp f) : Cmp (cmpL f) := ⟨cmpL_anti hf, cmpL_tr hf⟩
end Go.Proofs.Ytfkooohnaodjmaa
