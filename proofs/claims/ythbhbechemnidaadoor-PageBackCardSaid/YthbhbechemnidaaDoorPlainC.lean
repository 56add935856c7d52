/- Plain lemmas on rising rows of numbers: their runs, and their bytes. No program is named here. Plain: the row that begins bytes, if there is one. No program is named here. Plain: a configuration's bytes, and the configuration that bytes are of. No program is named here. -/
import Derived.Test.YthbhbechemnidaaDoorWireB
import Derived.Test.YthbhbechemnidaaDoorPlainR
namespace Go.Proofs.YthbhbechemnidaaDoor

/-- The runs of a row, as far as it has been gone through: each one's first number, and how many. -/
def rsStep (R : List (Int × Nat)) (x : Int) : List (Int × Nat) :=
  match R.getLast? with
  | some (f, c) => if f + c = x then R.dropLast ++ [(f, c + 1)] else R ++ [(x, 1)]
  | none => [(x, 1)]
def rs (l : List Int) : List (Int × Nat) := l.foldl rsStep []
theorem rs_snoc (l : List Int) (x : Int) : rs (l ++ [x]) = rsStep (rs l) x := by simp [rs]

def seg (p : Int × Nat) : List Int := (List.range p.2).map fun k : Nat => p.1 + (k : Int)
theorem seg_len (p : Int × Nat) : (seg p).length = p.2 := by simp [seg]
theorem seg_get (p : Int × Nat) (k : Nat) (h : k < p.2) : (seg p)[k]? = some (p.1 + k) := by simp [seg, h]
theorem seg_succ (f : Int) (c : Nat) : seg (f, c + 1) = seg (f, c) ++ [f + c] := by simp [seg, List.range_succ]

/-- Runs that are a row's: they are together the row, none is empty, and none goes on with the next. -/
structure Good (l : List Int) (R : List (Int × Nat)) : Prop where
  flat : R.flatMap seg = l
  pos : ∀ p ∈ R, 0 < p.2
  apart : ∀ (i : Nat) (p q : Int × Nat), R[i]? = some p → R[i + 1]? = some q → p.1 + p.2 ≠ q.1

theorem good_nil : Good [] [] := ⟨rfl, by simp, by simp⟩
theorem good_end {l : List Int} {R : List (Int × Nat)} (h : Good l R) {f : Int} {c : Nat} (hl : R.getLast? = some (f, c)) : 0 < c ∧ l.getLast? = some (f + c - 1) ∧ R = R.dropLast ++ [(f, c)] := by
  have hR : R = R.dropLast ++ [(f, c)] := by
    have hne : R ≠ [] := by intro e; rw [e] at hl; cases hl
    rw [List.getLast?_eq_some_getLast hne] at hl
    injection hl with hl
    rw [← hl, List.dropLast_concat_getLast]
  have hc : 0 < c := h.pos (f, c) (by rw [hR]; simp)
  refine ⟨hc, ?_, hR⟩
  obtain ⟨c, rfl⟩ : ∃ k, c = k + 1 := ⟨c - 1, by omega⟩
  rw [← h.flat, hR, List.flatMap_append, List.flatMap_cons, List.flatMap_nil, List.append_nil, seg_succ, ← List.append_assoc, List.getLast?_concat]
  congr 1
  simp
  omega

theorem good_step {l : List Int} {R : List (Int × Nat)} (h : Good l R) (x : Int) : Good (l ++ [x]) (rsStep R x) := by
  unfold rsStep
  cases hl : R.getLast? with
  | none =>
    have hR : R = [] := by simpa using hl
    have hlz : l = [] := by rw [← h.flat, hR]; rfl
    subst hR hlz
    exact ⟨by simp [seg], by simp, by intro i p q h1 h2; simp at h2⟩
  | some p =>
    obtain ⟨f, c⟩ := p
    obtain ⟨hc, _, hR⟩ := good_end h hl
    simp only
    by_cases hx : f + c = x
    · rw [if_pos hx]
      refine ⟨?_, ?_, ?_⟩
      · have hf := h.flat
        rw [hR, List.flatMap_append] at hf
        rw [List.flatMap_append, ← hf, List.flatMap_cons, List.flatMap_nil, List.append_nil, seg_succ, ← hx]
        simp
      · intro q hq
        rcases List.mem_append.1 hq with h1 | h1
        · exact h.pos q (List.dropLast_subset R h1)
        · rw [List.mem_singleton.1 h1]; simp
      · intro i p q h1 h2
        have hi : i + 1 < R.dropLast.length + 1 := by
          have := (List.getElem?_eq_some_iff.1 h2).1
          simpa using this
        rw [List.getElem?_append_left (by omega)] at h1
        have h1' : R[i]? = some p := by rw [hR, List.getElem?_append_left (by omega)]; exact h1
        by_cases he : i + 1 < R.dropLast.length
        · rw [List.getElem?_append_left he] at h2
          exact h.apart i p q h1' (by rw [hR, List.getElem?_append_left he]; exact h2)
        · rw [List.getElem?_append_right (by omega)] at h2
          have e0 : i + 1 - R.dropLast.length = 0 := by omega
          rw [e0] at h2
          simp at h2
          subst h2
          exact h.apart i p (f, c) h1' (by rw [hR, List.getElem?_append_right (by omega), e0]; rfl)
    · rw [if_neg hx]
      refine ⟨by rw [List.flatMap_append, h.flat]; simp [seg], ?_, ?_⟩
      · intro q hq
        rcases List.mem_append.1 hq with h1 | h1
        · exact h.pos q h1
        · rw [List.mem_singleton.1 h1]; simp
      · intro i p q h1 h2
        have hi : i + 1 < R.length + 1 := by
          have := (List.getElem?_eq_some_iff.1 h2).1
          simpa using this
        rw [List.getElem?_append_left (by omega)] at h1
        by_cases he : i + 1 < R.length
        · rw [List.getElem?_append_left he] at h2
          exact h.apart i p q h1 h2
        · rw [List.getElem?_append_right (by omega)] at h2
          have e0 : i + 1 - R.length = 0 := by omega
          rw [e0] at h2
          simp at h2
          subst h2
          have hpe : R.getLast? = some p := by
            rw [List.getLast?_eq_getElem?]
            have : R.length - 1 = i := by omega
            rw [this]; exact h1
          rw [hl] at hpe
          injection hpe with hpe
          subst hpe
          exact hx
theorem good_rs (l : List Int) : Good l (rs l) := by
  suffices h : ∀ (r l : List Int), l = r.reverse → Good l (rs l) from h l.reverse l (by simp)
  intro r
  induction r with
  | nil => intro l hl; subst hl; exact good_nil
  | cons x r ih =>
    intro l hl
    subst hl
    rw [List.reverse_cons, rs_snoc]
    exact good_step (ih _ rfl) x
theorem rs_take_succ (l : List Int) (k : Nat) (hk : k < l.length) : rs (l.take (k + 1)) = rsStep (rs (l.take k)) l[k] := by
  rw [List.take_succ_eq_append_getElem hk, rs_snoc]
theorem take_last (l : List Int) (k : Nat) (h0 : 0 < k) (hk : k < l.length) : (l.take k).getLast? = some (l[k - 1]'(by omega)) := by
  rw [List.getLast?_eq_getElem?, List.length_take, Nat.min_eq_left (by omega), List.getElem?_take_of_lt (by omega), List.getElem?_eq_getElem (by omega)]
theorem rs_last (l : List Int) (k : Nat) (h0 : 0 < k) (hk : k < l.length) : ∃ R' f c, rs (l.take k) = R' ++ [(f, c)] ∧ (rs (l.take k)).getLast? = some (f, c) ∧ f + (c : Int) = (l[k - 1]'(by omega)) + 1 := by
  cases hl : (rs (l.take k)).getLast? with
  | none =>
    have hR : rs (l.take k) = [] := by simpa using hl
    have h := (good_rs (l.take k)).flat
    rw [hR] at h
    have := congrArg List.length h
    simp at this
    omega
  | some p =>
    obtain ⟨f, c⟩ := p
    obtain ⟨_, h2, h3⟩ := good_end (good_rs (l.take k)) hl
    rw [take_last l k h0 hk] at h2
    injection h2 with h2
    exact ⟨_, f, c, h3, rfl, by omega⟩
theorem rs_follow (l : List Int) (k : Nat) (h0 : 0 < k) (hk : k < l.length) (h : (l[k - 1]'(by omega)) + 1 = l[k]) : ∃ R' f c, rs (l.take k) = R' ++ [(f, c)] ∧ rs (l.take (k + 1)) = R' ++ [(f, c + 1)] := by
  obtain ⟨R', f, c, h1, h2, h3⟩ := rs_last l k h0 hk
  refine ⟨R', f, c, h1, ?_⟩
  rw [rs_take_succ l k hk]
  unfold rsStep
  rw [h2]
  simp only
  rw [if_pos (by omega), h1, List.dropLast_concat]
theorem rs_push (l : List Int) (k : Nat) (hk : k < l.length) (h : k = 0 ∨ (l[k - 1]'(by omega)) + 1 ≠ l[k]) : rs (l.take (k + 1)) = rs (l.take k) ++ [(l[k], 1)] := by
  rcases Nat.eq_zero_or_pos k with h0 | h0
  · subst h0
    rw [rs_take_succ l 0 hk]; rfl
  · obtain ⟨R', f, c, h1, h2, h3⟩ := rs_last l k h0 hk
    rw [rs_take_succ l k hk]
    unfold rsStep
    rw [h2]
    simp only
    rw [if_neg (by omega)]
theorem rs_length (l : List Int) : (rs l).length ≤ l.length := by
  have h := good_rs l
  have : ∀ (R : List (Int × Nat)), (∀ p ∈ R, 0 < p.2) → R.length ≤ (R.flatMap seg).length := by
    intro R
    induction R with
    | nil => simp
    | cons p R ih =>
      intro hp
      have h1 := ih (fun q hq => hp q (List.mem_cons_of_mem _ hq))
      have h2 := hp p List.mem_cons_self
      rw [List.flatMap_cons, List.length_append, seg_len, List.length_cons]
      omega
  have := this (rs l) h.pos
  rwa [h.flat] at this

/-- How many numbers the first i runs have. -/
def psum (R : List (Int × Nat)) (i : Nat) : Nat := ((R.take i).flatMap seg).length
theorem psum_zero (R : List (Int × Nat)) : psum R 0 = 0 := rfl
theorem psum_succ (R : List (Int × Nat)) (i : Nat) (h : i < R.length) : psum R (i + 1) = psum R i + R[i].2 := by
  unfold psum
  rw [List.take_succ_eq_append_getElem h, List.flatMap_append, List.length_append, List.flatMap_cons, List.flatMap_nil, List.append_nil, seg_len]
theorem psum_all {l : List Int} {R : List (Int × Nat)} (h : Good l R) : psum R R.length = l.length := by unfold psum; rw [List.take_length, h.flat]
theorem psum_get {l : List Int} {R : List (Int × Nat)} (h : Good l R) (i : Nat) (hi : i < R.length) (k : Nat) (hk : k < R[i].2) : l[psum R i + k]? = some (R[i].1 + k) := by
  have e : l = (R.take i).flatMap seg ++ (seg R[i] ++ (R.drop (i + 1)).flatMap seg) := by
    rw [← h.flat]
    conv => lhs; rw [← List.take_append_drop i R, List.drop_eq_getElem_cons hi]
    rw [List.flatMap_append, List.flatMap_cons]
  rw [e]
  unfold psum
  rw [List.getElem?_append_right (by omega), List.getElem?_append_left (by rw [seg_len]; omega), Nat.add_sub_cancel_left, seg_get _ _ hk]
theorem psum_le {l : List Int} {R : List (Int × Nat)} (h : Good l R) (i : Nat) (hi : i < R.length) : psum R i + R[i].2 ≤ l.length := by
  have hp := h.pos R[i] (List.getElem_mem hi)
  have := psum_get h i hi (R[i].2 - 1) (by omega)
  have := (List.getElem?_eq_some_iff.1 this).1
  omega
theorem psum_apart {l : List Int} {R : List (Int × Nat)} (h : Good l R) (i : Nat) (hi : i < R.length) (h0 : 0 < i) : ∃ p, 0 < psum R i ∧ l[psum R i - 1]? = some p ∧ p + 1 ≠ R[i].1 := by
  have h1 := psum_succ R (i - 1) (by omega)
  have hp := h.pos R[i - 1] (List.getElem_mem (by omega))
  have h2 := psum_get h (i - 1) (by omega) (R[i - 1].2 - 1) (by omega)
  have h3 := h.apart (i - 1) R[i - 1] R[i] (List.getElem?_eq_getElem (by omega)) (by rw [Nat.sub_add_cancel h0]; exact List.getElem?_eq_getElem hi)
  rw [Nat.sub_add_cancel h0] at h1
  refine ⟨R[i - 1].1 + ((R[i - 1].2 - 1 : Nat) : Int), by omega, ?_, by omega⟩
  · rw [h1, show psum R (i - 1) + R[i - 1].2 - 1 = psum R (i - 1) + (R[i - 1].2 - 1) by omega]; exact h2

/-- A rising row of numbers that may be. -/
def Rise (l : List Int) : Prop := ∀ (i : Nat) (x : Int), l[i]? = some x → 0 ≤ x ∧ x < 4611686018427387904 ∧ (0 < i → ∀ p : Int, l[i - 1]? = some p → p < x)
/-- What stands for a number behind another one. -/
def gap (o : Option Int) (x : Int) : Int := match o with | none => x | some p => x - (p + 1)
def gl : Option Int → List Int → List UInt8
  | _, [] => []
  | o, x :: l => wputI (gap o x) ++ gl (some x) l
theorem gl_snoc : ∀ (o : Option Int) (l : List Int) (x : Int), gl o (l ++ [x]) = gl o l ++ wputI (gap (l.getLast?.or o) x)
  | o, [], x => by simp [gl]
  | o, y :: l, x => by
    rw [List.cons_append, gl, gl, gl_snoc (some y) l x, List.append_assoc]
    congr 3
    cases l with
    | nil => simp
    | cons z l => rw [List.getLast?_cons_cons, List.getLast?_eq_some_getLast (List.cons_ne_nil z l)]; rfl
/-- A row's bytes. -/
def gput (l : List Int) : List UInt8 := wput l.length ++ gl none l
theorem gput_pos (l : List Int) : 0 < (gput l).length := by unfold gput; have := wput_pos l.length; simp; omega
theorem gl_length : ∀ (o : Option Int) (l : List Int), (∀ p, o = some p → 0 ≤ p) → (∀ x ∈ l, 0 ≤ x ∧ x < 4611686018427387904) → (gl o l).length ≤ 9 * l.length
  | _, [], _, _ => by simp [gl]
  | o, x :: l, ho, hl => by
    obtain ⟨h1, h2⟩ := hl x List.mem_cons_self
    have h3 := gl_length (some x) l (fun p hp => by injection hp with hp; omega) (fun y hy => hl y (List.mem_cons_of_mem _ hy))
    have h4 := wput_length (gap o x).toNat (by cases o with | none => simp only [gap]; omega | some p => have := ho p rfl; simp only [gap]; omega)
    rw [gl, List.length_append, List.length_cons]
    unfold wputI
    omega
end Go.Proofs.YthbhbechemnidaaDoor

namespace Go.Proofs.YthbhbechemnidaaDoor

/-- So many numbers more of a row, the last one so far given: the rest of the row, and how many bytes it takes. -/
def gg : Nat → List UInt8 → Int → Option (List Int × Nat)
  | 0, _, _ => some ([], 0)
  | c + 1, l, last =>
    if (rnum l).2.2 = 0 ∧ ((rnum l).1 : Int) ≤ 4611686018427387902 - last then
      (gg c (l.drop (rnum l).2.1) (last + ((rnum l).1 + 1))).map fun q => ((last + ((rnum l).1 + 1)) :: q.1, (rnum l).2.1 + q.2)
    else none
def rGet (l : List UInt8) (why : Int) : Option (List Int × Nat) :=
  if (rCount l 4096 why).2.2 = 0 then (gg (rCount l 4096 why).1 (l.drop (rCount l 4096 why).2.1) (-1)).map fun q => (q.1, (rCount l 4096 why).2.1 + q.2) else none

/-- A number's bytes are just those that are read as it. -/
theorem rnumF_take : ∀ (l : List UInt8) (i n v m : Nat), (i = 0 → n = 0) → (i ≠ 0 → n ≠ 0) → rnumF l i n = (v, m, 0) → i < m ∧ m - i ≤ l.length ∧ hi n ++ l.take (m - i) = wput v
  | [], i, n, v, m, _, _, h => by simp [rnumF] at h
  | b :: r, i, n, v, m, h0, h1, h => by
    rw [rnumF_cons] at h
    split at h
    · simp at h
    · rename_i hc
      split at h
      · rename_i hb
        simp only [Prod.mk.injEq] at h
        obtain ⟨rfl, rfl, _⟩ := h
        have e : i + 1 - i = 1 := by omega
        refine ⟨by omega, by rw [e]; simp, ?_⟩
        rw [e, wput]
        have e1 : (n * 128 + b.toNat) / 128 = n := by omega
        have e2 : (n * 128 + b.toNat) % 128 = b.toNat := by omega
        rw [e1, e2]
        simp
      · rename_i hb
        have hb2 := b.toNat_lt
        have hn : n * 128 + b.toNat % 128 ≠ 0 := by
          rcases Nat.eq_zero_or_pos i with hi0 | hi0
          · have : b.toNat ≠ 128 := fun e => hc (.inl ⟨hi0, e⟩)
            omega
          · have := h1 (by omega)
            omega
        obtain ⟨k1, k2, k3⟩ := rnumF_take r (i + 1) (n * 128 + b.toNat % 128) v m (fun e => by omega) (fun _ => hn) h
        have e : m - i = (m - (i + 1)) + 1 := by omega
        refine ⟨by omega, by simp; omega, ?_⟩
        rw [e, List.take_succ_cons, ← k3, hi_pos _ hn]
        have e1 : (n * 128 + b.toNat % 128) / 128 = n := by omega
        have e2 : (n * 128 + b.toNat % 128) % 128 = b.toNat % 128 := by omega
        have e3 : UInt8.ofNat (128 + b.toNat % 128) = b := by
          apply UInt8.toNat_inj.1
          rw [UInt8.toNat_ofNat']
          omega
        rw [e1, e2, e3]
        simp
theorem rnum_take {l : List UInt8} {v m : Nat} (h : rnum l = (v, m, 0)) : m ≤ l.length ∧ l.take m = wput v := by
  obtain ⟨_, h2, h3⟩ := rnumF_take l 0 0 v m (fun _ => rfl) (fun h => absurd rfl h) h
  rw [hi_zero] at h3
  exact ⟨h2, h3⟩

theorem gg_take : ∀ (c : Nat) (l : List UInt8) (last : Int) (row : List Int) (k : Nat), gg c l last = some (row, k) → k ≤ l.length ∧ row.length = c ∧ l.take k = gl (some last) row ∧
    (∀ x ∈ row, last < x ∧ x < 4611686018427387904) ∧ (∀ (i : Nat) (x p : Int), row[i + 1]? = some x → row[i]? = some p → p < x)
  | 0, l, last, row, k, h => by
    simp [gg] at h
    obtain ⟨rfl, rfl⟩ := h
    simp [gl]
  | c + 1, l, last, row, k, h => by
    unfold gg at h
    obtain ⟨v, m, e, hq⟩ : ∃ v m e, rnum l = (v, m, e) := ⟨_, _, _, rfl⟩
    rw [hq] at h
    simp only at h
    split at h
    · rename_i hc
      obtain ⟨rfl, hv⟩ := hc
      obtain ⟨hm, ht⟩ := rnum_take hq
      cases hg : gg c (l.drop m) (last + (v + 1)) with
      | none => rw [hg] at h; cases h
      | some q =>
        obtain ⟨r, k'⟩ := q
        rw [hg] at h
        simp only [Option.map_some, Option.some.injEq, Prod.mk.injEq] at h
        obtain ⟨rfl, rfl⟩ := h
        obtain ⟨h1, h2, h3, h4, h5⟩ := gg_take c _ _ r k' hg
        rw [List.length_drop] at h1
        refine ⟨by omega, by simp [h2], ?_, ?_, ?_⟩
        · rw [List.take_add, ht, h3, gl]
          congr 2
          unfold gap
          simp only
          omega
        · intro x hx
          rcases List.mem_cons.1 hx with hx | hx
          · omega
          · have := h4 x hx; omega
        · intro i x p hx hp
          cases i with
          | zero =>
            simp at hp
            simp at hx
            have := h4 x (List.mem_of_getElem? hx)
            omega
          | succ i =>
            simp at hx hp
            exact h5 i x p hx hp
    · cases h
theorem gl_first (r : List Int) : gl (some (-1)) r = gl none r := by
  cases r with
  | nil => rfl
  | cons x r => simp [gl, gap]
theorem rCount_some {l : List UInt8} (h : (rCount l 4096 0).2.2 = 0) : rnum l = rCount l 4096 0 ∧ (rCount l 4096 0).1 ≤ 4096 := by
  unfold rCount at h ⊢
  have e : rNum l 0 = rnum l := by unfold rNum; rw [if_pos rfl]
  rw [e] at h ⊢
  split at h
  · simp at h
  · rename_i hc
    rw [if_neg hc]
    refine ⟨rfl, ?_⟩
    by_cases h1 : (4096 : Int) < (rnum l).1
    · exact absurd ⟨h, h1⟩ hc
    · omega
/-- What is read is a rising row, and just its bytes are taken. -/
theorem rGet_take {l : List UInt8} {row : List Int} {k : Nat} (h : rGet l 0 = some (row, k)) : k ≤ l.length ∧ row.length ≤ 4096 ∧ Rise row ∧ l.take k = gput row := by
  unfold rGet at h
  split at h
  · rename_i h0
    obtain ⟨h1, h2⟩ := rCount_some h0
    obtain ⟨v, m, e, hq⟩ : ∃ v m e, rCount l 4096 0 = (v, m, e) := ⟨_, _, _, rfl⟩
    rw [hq] at h h0 h1 h2
    simp only at h h0 h2
    subst h0
    obtain ⟨hm, ht⟩ := rnum_take h1
    cases hg : gg v (l.drop m) (-1) with
    | none => rw [hg] at h; cases h
    | some q =>
      obtain ⟨r, k'⟩ := q
      rw [hg] at h
      simp only [Option.map_some, Option.some.injEq, Prod.mk.injEq] at h
      obtain ⟨rfl, rfl⟩ := h
      obtain ⟨k1, k2, k3, k4, k5⟩ := gg_take v _ _ r k' hg
      rw [List.length_drop] at k1
      refine ⟨by omega, by omega, ?_, ?_⟩
      · intro i x hx
        have h9 := k4 x (List.mem_of_getElem? hx)
        refine ⟨by omega, h9.2, fun hi p hp => ?_⟩
        obtain ⟨j, rfl⟩ : ∃ j, i = j + 1 := ⟨i - 1, by omega⟩
        exact k5 j x p hx hp
      · rw [List.take_add, ht, k3, gl_first]
        unfold gput
        rw [k2]
  · cases h

theorem gg_gl : ∀ (row : List Int) (last : Int) (r : List UInt8), -1 ≤ last → (∀ x ∈ row, last < x ∧ x < 4611686018427387904) → (∀ (i : Nat) (x p : Int), row[i + 1]? = some x → row[i]? = some p → p < x) →
    gg row.length (gl (some last) row ++ r) last = some (row, (gl (some last) row).length)
  | [], last, r, _, _, _ => by simp [gg, gl]
  | x :: row, last, r, hl, h1, h2 => by
    obtain ⟨hx1, hx2⟩ := h1 x List.mem_cons_self
    have hv : ((gap (some last) x).toNat : Int) = x - (last + 1) := by unfold gap; simp only; omega
    have hw : rnum (gl (some last) (x :: row) ++ r) = ((gap (some last) x).toNat, (wputI (gap (some last) x)).length, 0) := by
      rw [gl, List.append_assoc]
      exact rnum_wput _ _ (by omega)
    have hr : ∀ y ∈ row, x < y ∧ y < 4611686018427387904 := by
      intro y hy
      refine ⟨?_, (h1 y (List.mem_cons_of_mem _ hy)).2⟩
      obtain ⟨j, hj⟩ := List.getElem?_of_mem hy
      have : ∀ (j : Nat) (y : Int), row[j]? = some y → x < y := by
        intro j
        induction j with
        | zero => intro y hy; exact h2 0 y x (by simp only [List.getElem?_cons_succ]; exact hy) rfl
        | succ j ih =>
          intro y hy
          have hjl := (List.getElem?_eq_some_iff.1 hy).1
          have hp : row[j]? = some row[j] := List.getElem?_eq_getElem (by omega)
          have a1 := ih _ hp
          have a2 := h2 (j + 1) y row[j] (by simpa using hy) (by simp)
          omega
      exact this j y hj
    have ih := gg_gl row x r (by omega) hr (fun i a b ha hb => h2 (i + 1) a b (by simpa using ha) (by simpa using hb))
    rw [List.length_cons, gg, hw]
    simp only
    rw [if_pos ⟨trivial, by omega⟩]
    have e1 : last + (((gap (some last) x).toNat : Int) + 1) = x := by omega
    have e2 : (gl (some last) (x :: row) ++ r).drop (wputI (gap (some last) x)).length = gl (some x) row ++ r := by
      rw [gl, List.append_assoc, List.drop_left]
    rw [e1, e2, ih]
    simp [gl]
theorem rGet_gput (row : List Int) (r : List UInt8) (hn : row.length ≤ 4096) (hR : Rise row) : rGet (gput row ++ r) 0 = some (row, (gput row).length) := by
  have hc : rCount (gput row ++ r) 4096 0 = (row.length, (wput row.length).length, 0) := by
    unfold rCount gput
    rw [List.append_assoc, rNum_wput _ _ (by omega), if_neg (by simp; omega)]
  unfold rGet
  rw [hc]
  simp only
  rw [if_pos trivial]
  unfold gput
  rw [List.append_assoc, List.drop_left, ← gl_first]
  have := gg_gl row (-1) r (by omega) (fun x hx => by
    obtain ⟨i, hi⟩ := List.getElem?_of_mem hx
    have := hR i x hi
    omega) (fun i x p hx hp => (hR (i + 1) x hx).2.2 (by omega) p (by simpa using hp))
  rw [this]
  simp
end Go.Proofs.YthbhbechemnidaaDoor

namespace Go.Proofs.YthbhbechemnidaaDoor

def cbit (b : Bool) : Nat := if b then 1 else 0
def cput1 (p : Bool × Int) : List UInt8 := wput (cbit p.1) ++ wputI p.2
def cputs (P : List (Bool × Int)) : List UInt8 := P.flatMap cput1
def cput (e : Int) (P : List (Bool × Int)) : List UInt8 := wputI e ++ cputs P
theorem cputs_snoc (P : List (Bool × Int)) (p : Bool × Int) : cputs (P ++ [p]) = cputs P ++ cput1 p := by simp [cputs]
theorem cput_take_succ (e : Int) (P : List (Bool × Int)) (k : Nat) (hk : k < P.length) : cput e (P.take (k + 1)) = cput e (P.take k) ++ cput1 P[k] := by
  unfold cput
  rw [List.take_succ_eq_append_getElem hk, cputs_snoc, List.append_assoc]

/-- Reading so many pairs: a bit and a number each. -/
def cg : Nat → List UInt8 → Nat → Int → List (Bool × Int) × Nat × Int
  | 0, _, k, why => ([], k, why)
  | n + 1, L, k, why =>
    let a := rCount (L.drop k) 1 why
    let b := rNum (L.drop (k + a.2.1)) a.2.2
    let r := cg n L (k + a.2.1 + b.2.1) b.2.2
    ((decide (a.1 = 1), (b.1 : Int)) :: r.1, r.2)
theorem cg_succ (n : Nat) (L : List UInt8) (k : Nat) (why : Int) {c m : Nat} {e : Int} (ha : rCount (L.drop k) 1 why = (c, m, e)) {v m2 : Nat} {e2 : Int} (hb : rNum (L.drop (k + m)) e = (v, m2, e2)) :
    cg (n + 1) L k why = ((decide (c = 1), (v : Int)) :: (cg n L (k + m + m2) e2).1, (cg n L (k + m + m2) e2).2) := by
  simp only [cg, ha, hb]
theorem cg_len : ∀ (n : Nat) (L : List UInt8) (k : Nat) (why : Int), (cg n L k why).1.length = n
  | 0, _, _, _ => rfl
  | n + 1, L, k, why => by simp only [cg, List.length_cons, cg_len n]

/-- What bytes are read as: the configuration, and the fault. -/
def cgAll (L : List UInt8) : Int × List (Bool × Int) × Int :=
  let a := rNum L 0
  let r := cg 5 L a.2.1 a.2.2
  let why := if r.2.2 = 0 ∧ ¬ ((0 ≤ (a.1 : Int) ∧ (a.1 : Int) ≤ 1099511627776) ∧ ∀ p ∈ r.1, 0 ≤ p.2 ∧ p.2 ≤ (a.1 : Int)) then 31 else r.2.2
  ((a.1 : Int), r.1, if 0 < L.length - r.2.1 ∧ why = 0 then 31 else why)

theorem rNum_zero {l : List UInt8} {why : Int} (h : (rNum l why).2.2 = 0) : why = 0 ∧ rnum l = rNum l why := by
  unfold rNum at h ⊢
  split at h
  · rename_i h0
    rw [if_pos h0]
    exact ⟨h0, rfl⟩
  · exact absurd h (by assumption)
theorem rCount_zero {l : List UInt8} {most why : Int} (h : (rCount l most why).2.2 = 0) : why = 0 ∧ rnum l = rCount l most why ∧ ((rCount l most why).1 : Int) ≤ most := by
  unfold rCount at h ⊢
  split at h
  · simp at h
  · rename_i hc
    rw [if_neg hc]
    obtain ⟨h1, h2⟩ := rNum_zero h
    refine ⟨h1, h2, ?_⟩
    by_cases h3 : most < ((rNum l why).1 : Int)
    · exact absurd ⟨h, h3⟩ hc
    · omega
theorem cg_take : ∀ (n : Nat) (L : List UInt8) (k : Nat) (why : Int), (cg n L k why).2.2 = 0 → k ≤ L.length → why = 0 ∧ k ≤ (cg n L k why).2.1 ∧ (cg n L k why).2.1 ≤ L.length ∧ L.take (cg n L k why).2.1 = L.take k ++ cputs (cg n L k why).1
  | 0, L, k, why, h, hk => by simp [cg, cputs] at h ⊢; exact ⟨h, hk⟩
  | n + 1, L, k, why, h, hk => by
    obtain ⟨c, m, e, ha⟩ : ∃ c m e, rCount (L.drop k) 1 why = (c, m, e) := ⟨_, _, _, rfl⟩
    obtain ⟨v, m2, e2, hb⟩ : ∃ v m2 e2, rNum (L.drop (k + m)) e = (v, m2, e2) := ⟨_, _, _, rfl⟩
    rw [cg_succ n L k why ha hb] at h ⊢
    simp only at h ⊢
    have hm := (rNum_facts (L.drop (k + m)) e).2.1
    rw [hb, List.length_drop] at hm
    have hmk : k + m ≤ L.length := by
      have h1 := (rNum_facts (L.drop k) why).2.1
      rw [List.length_drop] at h1
      unfold rCount at ha
      split at ha
      · simp only [Prod.mk.injEq] at ha; omega
      · rw [ha] at h1; simp only at h1; omega
    simp only at hm
    obtain ⟨he2, i1, i2, i3⟩ := cg_take n L (k + m + m2) e2 h (by omega)
    subst he2
    obtain ⟨he, hb'⟩ := rNum_zero (show (rNum (L.drop (k + m)) e).2.2 = 0 by rw [hb])
    subst he
    rw [hb] at hb'
    obtain ⟨_, tb⟩ := rnum_take hb'
    obtain ⟨hw, ha', hc1⟩ := rCount_zero (show (rCount (L.drop k) 1 why).2.2 = 0 by rw [ha])
    rw [ha] at ha' hc1
    obtain ⟨_, ta⟩ := rnum_take ha'
    refine ⟨hw, by omega, i2, ?_⟩
    simp only at hc1
    rw [i3, List.take_add, List.take_add, ta, tb]
    have hcb : cbit (decide (c = 1)) = c := by
      unfold cbit
      have : c = 0 ∨ c = 1 := by omega
      rcases this with rfl | rfl <;> rfl
    have e0 : cputs ((decide (c = 1), (v : Int)) :: (cg n L (k + m + m2) 0).1) = wput c ++ wputI v ++ cputs (cg n L (k + m + m2) 0).1 := by
      simp [cputs, cput1, hcb]
    rw [e0]
    simp [wputI]
theorem cgAll_take {L : List UInt8} (h : (cgAll L).2.2 = 0) : L = cput (cgAll L).1 (cgAll L).2.1 ∧ (cgAll L).2.1.length = 5 ∧ 0 ≤ (cgAll L).1 ∧ (cgAll L).1 ≤ 1099511627776 ∧ ∀ p ∈ (cgAll L).2.1, 0 ≤ p.2 ∧ p.2 ≤ (cgAll L).1 := by
  unfold cgAll at h ⊢
  obtain ⟨v, m, e, ha⟩ : ∃ v m e, rNum L 0 = (v, m, e) := ⟨_, _, _, rfl⟩
  rw [ha] at h ⊢
  simp only at h ⊢
  have hm := (rNum_facts L 0).2.1
  rw [ha] at hm
  simp only at hm
  split at h
  · simp at h
  · rename_i hc
    split at h
    · simp at h
    · rename_i hl
      have hR : (0 ≤ (v : Int) ∧ (v : Int) ≤ 1099511627776) ∧ ∀ p ∈ (cg 5 L m e).1, 0 ≤ p.2 ∧ p.2 ≤ (v : Int) := by
        by_cases h9 : (0 ≤ (v : Int) ∧ (v : Int) ≤ 1099511627776) ∧ ∀ p ∈ (cg 5 L m e).1, 0 ≤ p.2 ∧ p.2 ≤ (v : Int)
        · exact h9
        · exact absurd ⟨h, h9⟩ hc
      obtain ⟨he, h1, h2, h3⟩ := cg_take 5 L m e h hm
      subst he
      have hlen : (cg 5 L m 0).2.1 = L.length := by
        by_cases h9 : 0 < L.length - (cg 5 L m 0).2.1
        · exact absurd ⟨h9, h⟩ hl
        · omega
      rw [hlen, List.take_length] at h3
      have hrn : rnum L = (v, m, 0) := by rw [← ha]; unfold rNum; rw [if_pos rfl]
      obtain ⟨_, tv⟩ := rnum_take hrn
      refine ⟨?_, cg_len _ _ _ _, hR.1.1, hR.1.2, hR.2⟩
      unfold cput
      conv => lhs; rw [h3, tv]
      rfl

theorem cg_cputs : ∀ (P : List (Bool × Int)) (pre r : List UInt8), (∀ p ∈ P, 0 ≤ p.2 ∧ p.2 < 4611686018427387904) → cg P.length (pre ++ (cputs P ++ r)) pre.length 0 = (P, pre.length + (cputs P).length, 0)
  | [], pre, r, _ => by simp [cg, cputs]
  | p :: P, pre, r, h => by
    obtain ⟨o, j⟩ := p
    have hj := h (o, j) List.mem_cons_self
    simp only at hj
    have e0 : pre ++ (cputs ((o, j) :: P) ++ r) = pre ++ (wput (cbit o) ++ (wputI j ++ (cputs P ++ r))) := by simp [cputs, cput1]
    have hcb : cbit o ≤ 1 := by unfold cbit; split <;> omega
    have ha : rCount ((pre ++ (cputs ((o, j) :: P) ++ r)).drop pre.length) 1 0 = (cbit o, (wput (cbit o)).length, 0) := by
      rw [e0, List.drop_left]
      unfold rCount
      rw [rNum_wput _ _ (by omega), if_neg (by simp; omega)]
    have e1 : pre ++ (cputs ((o, j) :: P) ++ r) = (pre ++ wput (cbit o)) ++ (wputI j ++ (cputs P ++ r)) := by rw [e0, List.append_assoc]
    have hb : rNum ((pre ++ (cputs ((o, j) :: P) ++ r)).drop (pre.length + (wput (cbit o)).length)) 0 = (j.toNat, (wputI j).length, 0) := by
      rw [e1, ← List.length_append, List.drop_left]
      exact rNum_wput _ _ (by omega)
    have e2 : pre ++ (cputs ((o, j) :: P) ++ r) = (pre ++ wput (cbit o) ++ wputI j) ++ (cputs P ++ r) := by rw [e1, List.append_assoc (pre ++ wput (cbit o))]
    have ih := cg_cputs P (pre ++ wput (cbit o) ++ wputI j) r (fun q hq => h q (List.mem_cons_of_mem _ hq))
    rw [List.length_cons, cg_succ _ _ _ _ ha hb, e2]
    have e3 : pre.length + (wput (cbit o)).length + (wputI j).length = (pre ++ wput (cbit o) ++ wputI j).length := by simp; omega
    rw [e3, ih]
    have e4 : decide (cbit o = 1) = o := by cases o <;> rfl
    have e5 : ((j.toNat : Nat) : Int) = j := by omega
    rw [e4, e5]
    simp [cputs, cput1]
    omega
theorem cgAll_cput (e : Int) (P : List (Bool × Int)) (hl : P.length = 5) (h0 : 0 ≤ e) (h1 : e ≤ 1099511627776) (hP : ∀ p ∈ P, 0 ≤ p.2 ∧ p.2 ≤ e) : cgAll (cput e P) = (e, P, 0) := by
  have hn : rNum (cput e P) 0 = (e.toNat, (wputI e).length, 0) := rNum_wput _ _ (by omega)
  have hc := cg_cputs P (wputI e) [] (fun p hp => by have := hP p hp; omega)
  rw [hl, List.append_nil] at hc
  have hc' : cg 5 (cput e P) (wputI e).length 0 = (P, (wputI e).length + (cputs P).length, 0) := hc
  have e1 : ((e.toNat : Nat) : Int) = e := by omega
  unfold cgAll
  rw [hn]
  simp only
  rw [hc', e1]
  simp only
  have hR : ¬ (True ∧ ¬ ((0 ≤ e ∧ e ≤ 1099511627776) ∧ ∀ p ∈ P, 0 ≤ p.2 ∧ p.2 ≤ e)) := fun h => h.2 ⟨⟨h0, h1⟩, hP⟩
  rw [if_neg hR, if_neg]
  unfold cput
  simp
end Go.Proofs.YthbhbechemnidaaDoor
