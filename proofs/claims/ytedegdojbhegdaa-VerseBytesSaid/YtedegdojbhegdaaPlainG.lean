/- Plain lemmas on rising rows of numbers: their runs, and their bytes. No program is named here. -/
import Derived.Test.YtedegdojbhegdaaPlainW
namespace Go.Proofs.Ytedegdojbhegdaa

/-- The runs of a row, as far as it has been gone through: each one's first number, and how many. -/
def rsStep (R : List (Int × Nat)) (x : Int) : List (Int × Nat) :=
  match R.getLast? with
  | some (f, c) => if f + c = x then R.dropLast ++ [(f, c + 1)] else R ++ [(x, 1)]
  | none => [(x, 1)]
def rs (l : List Int) : List (Int × Nat) := l.foldl rsStep []
theorem rs_snoc (l : List Int) (x : Int) : rs (l ++ [x]) = rsStep (rs l) x := by simp [rs]

def seg (p : Int × Nat) : List Int := (List.range p.2).map fun k : Nat => p.1 + (k : Int)
theorem seg_len (p : Int × Nat) : (seg p).length = p.2 := by simp [seg]
theorem seg_get (p : Int × Nat) (k : Nat) (h : k < p.2) : (seg p)[k]? = some (p.1 + k) := by simp [seg, h]
theorem seg_succ (f : Int) (c : Nat) : seg (f, c + 1) = seg (f, c) ++ [f + c] := by simp [seg, List.range_succ]

/-- Runs that are a row's: they are together the row, none is empty, and none goes on with the next. -/
structure Good (l : List Int) (R : List (Int × Nat)) : Prop where
  flat : R.flatMap seg = l
  pos : ∀ p ∈ R, 0 < p.2
  apart : ∀ (i : Nat) (p q : Int × Nat), R[i]? = some p → R[i + 1]? = some q → p.1 + p.2 ≠ q.1

theorem good_nil : Good [] [] := ⟨rfl, by simp, by simp⟩
theorem good_end {l : List Int} {R : List (Int × Nat)} (h : Good l R) {f : Int} {c : Nat} (hl : R.getLast? = some (f, c)) : 0 < c ∧ l.getLast? = some (f + c - 1) ∧ R = R.dropLast ++ [(f, c)] := by
  have hR : R = R.dropLast ++ [(f, c)] := by
    have hne : R ≠ [] := by intro e; rw [e] at hl; cases hl
    rw [List.getLast?_eq_some_getLast hne] at hl
    injection hl with hl
    rw [← hl, List.dropLast_concat_getLast]
  have hc : 0 < c := h.pos (f, c) (by rw [hR]; simp)
  refine ⟨hc, ?_, hR⟩
  obtain ⟨c, rfl⟩ : ∃ k, c = k + 1 := ⟨c - 1, by omega⟩
  rw [← h.flat, hR, List.flatMap_append, List.flatMap_cons, List.flatMap_nil, List.append_nil, seg_succ, ← List.append_assoc, List.getLast?_concat]
  congr 1
  simp
  omega

theorem good_step {l : List Int} {R : List (Int × Nat)} (h : Good l R) (x : Int) : Good (l ++ [x]) (rsStep R x) := by
  unfold rsStep
  cases hl : R.getLast? with
  | none =>
    have hR : R = [] := by simpa using hl
    have hlz : l = [] := by rw [← h.flat, hR]; rfl
    subst hR hlz
    exact ⟨by simp [seg], by simp, by intro i p q h1 h2; simp at h2⟩
  | some p =>
    obtain ⟨f, c⟩ := p
    obtain ⟨hc, _, hR⟩ := good_end h hl
    simp only
    by_cases hx : f + c = x
    · rw [if_pos hx]
      refine ⟨?_, ?_, ?_⟩
      · have hf := h.flat
        rw [hR, List.flatMap_append] at hf
        rw [List.flatMap_append, ← hf, List.flatMap_cons, List.flatMap_nil, List.append_nil, seg_succ, ← hx]
        simp
      · intro q hq
        rcases List.mem_append.1 hq with h1 | h1
        · exact h.pos q (List.dropLast_subset R h1)
        · rw [List.mem_singleton.1 h1]; simp
      · intro i p q h1 h2
        have hi : i + 1 < R.dropLast.length + 1 := by
          have := (List.getElem?_eq_some_iff.1 h2).1
          simpa using this
        rw [List.getElem?_append_left (by omega)] at h1
        have h1' : R[i]? = some p := by rw [hR, List.getElem?_append_left (by omega)]; exact h1
        by_cases he : i + 1 < R.dropLast.length
        · rw [List.getElem?_append_left he] at h2
          exact h.apart i p q h1' (by rw [hR, List.getElem?_append_left he]; exact h2)
        · rw [List.getElem?_append_right (by omega)] at h2
          have e0 : i + 1 - R.dropLast.length = 0 := by omega
          rw [e0] at h2
          simp at h2
          subst h2
          exact h.apart i p (f, c) h1' (by rw [hR, List.getElem?_append_right (by omega), e0]; rfl)
    · rw [if_neg hx]
      refine ⟨by rw [List.flatMap_append, h.flat]; simp [seg], ?_, ?_⟩
      · intro q hq
        rcases List.mem_append.1 hq with h1 | h1
        · exact h.pos q h1
        · rw [List.mem_singleton.1 h1]; simp
      · intro i p q h1 h2
        have hi : i + 1 < R.length + 1 := by
          have := (List.getElem?_eq_some_iff.1 h2).1
          simpa using this
        rw [List.getElem?_append_left (by omega)] at h1
        by_cases he : i + 1 < R.length
        · rw [List.getElem?_append_left he] at h2
          exact h.apart i p q h1 h2
        · rw [List.getElem?_append_right (by omega)] at h2
          have e0 : i + 1 - R.length = 0 := by omega
          rw [e0] at h2
          simp at h2
          subst h2
          have hpe : R.getLast? = some p := by
            rw [List.getLast?_eq_getElem?]
            have : R.length - 1 = i := by omega
            rw [this]; exact h1
          rw [hl] at hpe
          injection hpe with hpe
          subst hpe
          exact hx
theorem good_rs (l : List Int) : Good l (rs l) := by
  suffices h : ∀ (r l : List Int), l = r.reverse → Good l (rs l) from h l.reverse l (by simp)
  intro r
  induction r with
  | nil => intro l hl; subst hl; exact good_nil
  | cons x r ih =>
    intro l hl
    subst hl
    rw [List.reverse_cons, rs_snoc]
    exact good_step (ih _ rfl) x
theorem rs_take_succ (l : List Int) (k : Nat) (hk : k < l.length) : rs (l.take (k + 1)) = rsStep (rs (l.take k)) l[k] := by
  rw [List.take_succ_eq_append_getElem hk, rs_snoc]
theorem take_last (l : List Int) (k : Nat) (h0 : 0 < k) (hk : k < l.length) : (l.take k).getLast? = some (l[k - 1]'(by omega)) := by
  rw [List.getLast?_eq_getElem?, List.length_take, Nat.min_eq_left (by omega), List.getElem?_take_of_lt (by omega), List.getElem?_eq_getElem (by omega)]
theorem rs_last (l : List Int) (k : Nat) (h0 : 0 < k) (hk : k < l.length) : ∃ R' f c, rs (l.take k) = R' ++ [(f, c)] ∧ (rs (l.take k)).getLast? = some (f, c) ∧ f + (c : Int) = (l[k - 1]'(by omega)) + 1 := by
  cases hl : (rs (l.take k)).getLast? with
  | none =>
    have hR : rs (l.take k) = [] := by simpa using hl
    have h := (good_rs (l.take k)).flat
    rw [hR] at h
    have := congrArg List.length h
    simp at this
    omega
  | some p =>
    obtain ⟨f, c⟩ := p
    obtain ⟨_, h2, h3⟩ := good_end (good_rs (l.take k)) hl
    rw [take_last l k h0 hk] at h2
    injection h2 with h2
    exact ⟨_, f, c, h3, rfl, by omega⟩
theorem rs_follow (l : List Int) (k : Nat) (h0 : 0 < k) (hk : k < l.length) (h : (l[k - 1]'(by omega)) + 1 = l[k]) : ∃ R' f c, rs (l.take k) = R' ++ [(f, c)] ∧ rs (l.take (k + 1)) = R' ++ [(f, c + 1)] := by
  obtain ⟨R', f, c, h1, h2, h3⟩ := rs_last l k h0 hk
  refine ⟨R', f, c, h1, ?_⟩
  rw [rs_take_succ l k hk]
  unfold rsStep
  rw [h2]
  simp only
  rw [if_pos (by omega), h1, List.dropLast_concat]
theorem rs_push (l : List Int) (k : Nat) (hk : k < l.length) (h : k = 0 ∨ (l[k - 1]'(by omega)) + 1 ≠ l[k]) : rs (l.take (k + 1)) = rs (l.take k) ++ [(l[k], 1)] := by
  rcases Nat.eq_zero_or_pos k with h0 | h0
  · subst h0
    rw [rs_take_succ l 0 hk]; rfl
  · obtain ⟨R', f, c, h1, h2, h3⟩ := rs_last l k h0 hk
    rw [rs_take_succ l k hk]
    unfold rsStep
    rw [h2]
    simp only
    rw [if_neg (by omega)]
theorem rs_length (l : List Int) : (rs l).length ≤ l.length := by
  have h := good_rs l
  have : ∀ (R : List (Int × Nat)), (∀ p ∈ R, 0 < p.2) → R.length ≤ (R.flatMap seg).length := by
    intro R
    induction R with
    | nil => simp
    | cons p R ih =>
      intro hp
      have h1 := ih (fun q hq => hp q (List.mem_cons_of_mem _ hq))
      have h2 := hp p List.mem_cons_self
      rw [List.flatMap_cons, List.length_append, seg_len, List.length_cons]
      omega
  have := this (rs l) h.pos
  rwa [h.flat] at this

/-- How many numbers the first i runs have. -/
def psum (R : List (Int × Nat)) (i : Nat) : Nat := ((R.take i).flatMap seg).length
theorem psum_zero (R : List (Int × Nat)) : psum R 0 = 0 := rfl
theorem psum_succ (R : List (Int × Nat)) (i : Nat) (h : i < R.length) : psum R (i + 1) = psum R i + R[i].2 := by
  unfold psum
  rw [List.take_succ_eq_append_getElem h, List.flatMap_append, List.length_append, List.flatMap_cons, List.flatMap_nil, List.append_nil, seg_len]
theorem psum_all {l : List Int} {R : List (Int × Nat)} (h : Good l R) : psum R R.length = l.length := by unfold psum; rw [List.take_length, h.flat]
theorem psum_get {l : List Int} {R : List (Int × Nat)} (h : Good l R) (i : Nat) (hi : i < R.length) (k : Nat) (hk : k < R[i].2) : l[psum R i + k]? = some (R[i].1 + k) := by
  have e : l = (R.take i).flatMap seg ++ (seg R[i] ++ (R.drop (i + 1)).flatMap seg) := by
    rw [← h.flat]
    conv => lhs; rw [← List.take_append_drop i R, List.drop_eq_getElem_cons hi]
    rw [List.flatMap_append, List.flatMap_cons]
  rw [e]
  unfold psum
  rw [List.getElem?_append_right (by omega), List.getElem?_append_left (by rw [seg_len]; omega), Nat.add_sub_cancel_left, seg_get _ _ hk]
theorem psum_le {l : List Int} {R : List (Int × Nat)} (h : Good l R) (i : Nat) (hi : i < R.length) : psum R i + R[i].2 ≤ l.length := by
  have hp := h.pos R[i] (List.getElem_mem hi)
  have := psum_get h i hi (R[i].2 - 1) (by omega)
  have := (List.getElem?_eq_some_iff.1 this).1
  omega
theorem psum_apart {l : List Int} {R : List (Int × Nat)} (h : Good l R) (i : Nat) (hi : i < R.length) (h0 : 0 < i) : ∃ p, 0 < psum R i ∧ l[psum R i - 1]? = some p ∧ p + 1 ≠ R[i].1 := by
  have h1 := psum_succ R (i - 1) (by omega)
  have hp := h.pos R[i - 1] (List.getElem_mem (by omega))
  have h2 := psum_get h (i - 1) (by omega) (R[i - 1].2 - 1) (by omega)
  have h3 := h.apart (i - 1) R[i - 1] R[i] (List.getElem?_eq_getElem (by omega)) (by rw [Nat.sub_add_cancel h0]; exact List.getElem?_eq_getElem hi)
  rw [Nat.sub_add_cancel h0] at h1
  refine ⟨R[i - 1].1 + ((R[i - 1].2 - 1 : Nat) : Int), by omega, ?_, by omega⟩
  · rw [h1, show psum R (i - 1) + R[i - 1].2 - 1 = psum R (i - 1) + (R[i - 1].2 - 1) by omega]; exact h2

/-- A rising row of numbers that may be. -/
def Rise (l : List Int) : Prop := ∀ (i : Nat) (x : Int), l[i]? = some x → 0 ≤ x ∧ x < 4611686018427387904 ∧ (0 < i → ∀ p : Int, l[i - 1]? = some p → p < x)
/-- What stands for a number behind another one. -/
def gap (o : Option Int) (x : Int) : Int := match o with | none => x | some p => x - (p + 1)
def gl : Option Int → List Int → List UInt8
  | _, [] => []
  | o, x :: l => wputI (gap o x) ++ gl (some x) l
theorem gl_snoc : ∀ (o : Option Int) (l : List Int) (x : Int), gl o (l ++ [x]) = gl o l ++ wputI (gap (l.getLast?.or o) x)
  | o, [], x => by simp [gl]
  | o, y :: l, x => by
    rw [List.cons_append, gl, gl, gl_snoc (some y) l x, List.append_assoc]
    congr 3
    cases l with
    | nil => simp
    | cons z l => rw [List.getLast?_cons_cons, List.getLast?_eq_some_getLast (List.cons_ne_nil z l)]; rfl
/-- A row's bytes. -/
def gput (l : List Int) : List UInt8 := wput l.length ++ gl none l
theorem gput_pos (l : List Int) : 0 < (gput l).length := by unfold gput; have := wput_pos l.length; simp; omega
theorem gl_length : ∀ (o : Option Int) (l : List Int), (∀ p, o = some p → 0 ≤ p) → (∀ x ∈ l, 0 ≤ x ∧ x < 4611686018427387904) → (gl o l).length ≤ 9 * l.length
  | _, [], _, _ => by simp [gl]
  | o, x :: l, ho, hl => by
    obtain ⟨h1, h2⟩ := hl x List.mem_cons_self
    have h3 := gl_length (some x) l (fun p hp => by injection hp with hp; omega) (fun y hy => hl y (List.mem_cons_of_mem _ hy))
    have h4 := wput_length (gap o x).toNat (by cases o with | none => simp only [gap]; omega | some p => have := ho p rfl; simp only [gap]; omega)
    rw [gl, List.length_append, List.length_cons]
    unfold wputI
    omega
end Go.Proofs.Ytedegdojbhegdaa
