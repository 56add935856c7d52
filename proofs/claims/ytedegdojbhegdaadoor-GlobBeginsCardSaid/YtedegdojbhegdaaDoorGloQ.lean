/- Plain: patterns, part by part and rune by rune: the states that a pattern can be in. No program is named here. -/
import Derived.Test.YtedegdojbhegdaaDoorGloP
namespace Go.Proofs.YtedegdojbhegdaaDoor

/-- A row of bools by its places. -/
def bl_ (n : Nat) (f : Nat → Bool) : List Bool := (List.range n).map f
theorem bl_len (n : Nat) (f : Nat → Bool) : (bl_ n f).length = n := by simp [bl_]
theorem bl_at (n : Nat) (f : Nat → Bool) (i : Nat) (h : i < (bl_ n f).length) : (bl_ n f)[i] = f i := by simp [bl_]
theorem bl_congr {n : Nat} {f g : Nat → Bool} (h : ∀ i, i < n → f i = g i) : bl_ n f = bl_ n g := by
  unfold bl_
  exact List.map_congr_left fun i hi => h i (List.mem_range.1 hi)
theorem bl_set (n : Nat) (f : Nat → Bool) (i : Nat) (b : Bool) : (bl_ n f).set i b = bl_ n (fun j => if j = i then b else f j) := by
  apply List.ext_getElem
  · simp [bl_]
  · intro j h1 h2
    rw [List.getElem_set, bl_at, bl_at]
    by_cases h : i = j
    · rw [if_pos h, if_pos h.symm]
    · rw [if_neg h, if_neg (fun e => h e.symm)]
theorem bl_false (n : Nat) : bl_ n (fun _ => false) = List.replicate n false := by
  apply List.ext_getElem
  · simp [bl_]
  · intro j h1 h2
    rw [bl_at]
    simp

/-- A row may be empty: what can be reached without a rune. -/
def skF (row f : Nat → Bool) : Nat → Bool
  | 0 => f 0
  | i + 1 => f (i + 1) || (row i && skF row f i)
/-- As far as the loop has come. -/
def skK (row f : Nat → Bool) (k i : Nat) : Bool := if i ≤ k then skF row f i else f i
theorem skK_step_yes {row f : Nat → Bool} {k : Nat} (h : (row k && skF row f k) = true) (i : Nat) : skK row f (k + 1) i = if i = k + 1 then true else skK row f k i := by
  unfold skK
  by_cases h1 : i = k + 1
  · subst h1
    rw [if_pos (Nat.le_refl _), if_pos rfl, skF, h, Bool.or_true]
  · rw [if_neg h1]
    by_cases h2 : i ≤ k
    · rw [if_pos h2, if_pos (by omega)]
    · rw [if_neg h2, if_neg (by omega)]
theorem skK_step_no {row f : Nat → Bool} {k : Nat} (h : (row k && skF row f k) = false) (i : Nat) : skK row f (k + 1) i = skK row f k i := by
  unfold skK
  by_cases h1 : i = k + 1
  · subst h1
    rw [if_pos (Nat.le_refl _), if_neg (by omega), skF, h, Bool.or_false]
  · by_cases h2 : i ≤ k
    · rw [if_pos h2, if_pos (by omega)]
    · rw [if_neg h2, if_neg (by omega)]
theorem skK_zero (row f : Nat → Bool) (i : Nat) : skK row f 0 i = f i := by
  unfold skK
  by_cases h : i ≤ 0
  · rw [if_pos h, show i = 0 by omega]
    rfl
  · rw [if_neg h]

/-- In which states a pattern is behind k runes. -/
def St (P : List Part) (T : List Nat) (k i : Nat) : Bool := if rowP P i then Mt P T (i + 1) k else Mt P T i k
/-- Those behind one rune more, as far as the first j parts say. -/
def nxF (P : List Part) (T : List Nat) (k j i : Nat) : Bool := (decide (i < j) && rowP P i && St P T k i) || (decide (0 < i) && decide (i ≤ j) && !rowP P (i - 1) && St P T k (i - 1) && oneP P (i - 1) (T.getD k 0))
theorem nxF_zero (P : List Part) (T : List Nat) (k i : Nat) : nxF P T k 0 i = false := by
  unfold nxF
  by_cases h : 0 < i
  · simp; omega
  · simp [h]
theorem nxF_off {P : List Part} {T : List Nat} {k j : Nat} (h : St P T k j = false) (i : Nat) : nxF P T k (j + 1) i = nxF P T k j i := by
  unfold nxF
  by_cases h1 : i = j
  · subst h1
    simp [h]
  · by_cases h2 : i = j + 1
    · subst h2
      simp [h]
      intro h9
      omega
    · have e1 : decide (i < j + 1) = decide (i < j) := by simp; omega
      have e2 : decide (i ≤ j + 1) = decide (i ≤ j) := by simp; omega
      rw [e1, e2]
theorem nxF_row {P : List Part} {T : List Nat} {k j : Nat} (h : St P T k j = true) (hr : rowP P j = true) (i : Nat) : nxF P T k (j + 1) i = if i = j then true else nxF P T k j i := by
  unfold nxF
  by_cases h1 : i = j
  · subst h1
    simp [h, hr]
  · rw [if_neg h1]
    by_cases h2 : i = j + 1
    · subst h2
      simp [hr]
      intro h9
      omega
    · have e1 : decide (i < j + 1) = decide (i < j) := by simp; omega
      have e2 : decide (i ≤ j + 1) = decide (i ≤ j) := by simp; omega
      rw [e1, e2]
theorem nxF_one {P : List Part} {T : List Nat} {k j : Nat} (h : St P T k j = true) (hr : rowP P j = false) (i : Nat) : nxF P T k (j + 1) i = if i = j + 1 then oneP P j (T.getD k 0) else nxF P T k j i := by
  unfold nxF
  by_cases h1 : i = j
  · subst h1
    rw [if_neg (by omega)]
    simp [hr]
  · by_cases h2 : i = j + 1
    · subst h2
      simp [hr, h]
    · rw [if_neg h2]
      have e1 : decide (i < j + 1) = decide (i < j) := by simp; omega
      have e2 : decide (i ≤ j + 1) = decide (i ≤ j) := by simp; omega
      rw [e1, e2]
theorem nxF_above {P : List Part} {T : List Nat} {k j i : Nat} (h : j < i) : nxF P T k j i = false := by
  unfold nxF
  have e1 : decide (i < j) = false := by simp; omega
  have e2 : decide (i ≤ j) = false := by simp; omega
  rw [e1, e2]
  simp
theorem nxF_none {P : List Part} {T : List Nat} {k j : Nat} (h : St P T k j = true) (hr : rowP P j = false) (ho : oneP P j (T.getD k 0) = false) (i : Nat) : nxF P T k (j + 1) i = nxF P T k j i := by
  rw [nxF_one h hr]
  by_cases hi : i = j + 1
  · rw [if_pos hi, ho, nxF_above (by omega)]
  · rw [if_neg hi]
theorem St_zero (P : List Part) (T : List Nat) (i : Nat) : skF (rowP P) (fun i => decide (i = 0)) i = St P T 0 i := by
  have key : ∀ i, skF (rowP P) (fun i => decide (i = 0)) i = Mt P T i 0 := by
    intro i
    induction i with
    | zero => rw [Mt]; rfl
    | succ i ih => rw [skF, Mt, ih]; simp
  rw [key]
  unfold St
  by_cases h : rowP P i = true
  · rw [if_pos h, Mt, h]
    rfl
  · rw [if_neg h]
theorem St_step (P : List Part) (T : List Nat) (k : Nat) : ∀ i, i ≤ P.length → skF (rowP P) (nxF P T k P.length) i = St P T (k + 1) i
  | 0, _ => by
    rw [skF]
    have h0 : nxF P T k P.length 0 = (rowP P 0 && St P T k 0) := by
      unfold nxF
      by_cases h : 0 < P.length
      · simp [h]
      · have : rowP P 0 = false := by
          unfold rowP
          rw [List.getElem?_eq_none (by omega)]
        simp [h, this]
    rw [h0]
    unfold St
    by_cases h : rowP P 0 = true
    · rw [if_pos h, if_pos h, Mt, if_pos h, Mt, h]
      simp
    · rw [if_neg h, Mt]
      simp [h]
  | i + 1, hi => by
    have ih := St_step P T k i (by omega)
    rw [skF, ih]
    have hn : nxF P T k P.length (i + 1) = ((rowP P (i + 1) && St P T k (i + 1)) || (!rowP P i && St P T k i && oneP P i (T.getD k 0))) := by
      unfold nxF
      have e2 : decide (i + 1 ≤ P.length) = true := by simp; omega
      have e3 : decide (0 < i + 1) = true := by simp
      rw [e2, e3, Nat.add_sub_cancel]
      by_cases h : i + 1 < P.length
      · simp [h]
      · have : rowP P (i + 1) = false := by
          unfold rowP
          rw [List.getElem?_eq_none (by omega)]
        simp [this]
    rw [hn]
    unfold St
    by_cases h : rowP P i = true
    · by_cases h1 : rowP P (i + 1) = true
      · rw [if_pos h1, if_pos h1, if_pos h, h, h1, Mt.eq_4 P T (i + 1) k, if_pos h1]
        simp [Bool.or_comm]
      · rw [if_neg h1, if_pos h]
        simp [h, h1]
    · by_cases h1 : rowP P (i + 1) = true
      · rw [if_pos h1, if_pos h1, if_neg h, h1, Mt.eq_4 P T (i + 1) k, if_pos h1, Mt.eq_4 P T i k, if_neg h]
        simp [h, Bool.or_comm]
      · rw [if_neg h1, if_neg h, Mt.eq_4 P T i k, if_neg h]
        simp [h, h1]
theorem St_end (P : List Part) (T : List Nat) : St P T T.length P.length = matchP P T := by
  unfold St matchP
  have : rowP P P.length = false := by
    unfold rowP
    rw [List.getElem?_eq_none (Nat.le_refl _)]
  rw [this]
  rfl
end Go.Proofs.YtedegdojbhegdaaDoor
