/- Plain: the row that begins bytes, if there is one. No program is named here. -/
import Derived.Test.YtedegdojbhegdaaPlainG
import Derived.Test.YtedegdojbhegdaaPlainR
namespace Go.Proofs.Ytedegdojbhegdaa

/-- So many numbers more of a row, the last one so far given: the rest of the row, and how many bytes it takes. -/
def gg : Nat → List UInt8 → Int → Option (List Int × Nat)
  | 0, _, _ => some ([], 0)
  | c + 1, l, last =>
    if (rnum l).2.2 = 0 ∧ ((rnum l).1 : Int) ≤ 4611686018427387902 - last then
      (gg c (l.drop (rnum l).2.1) (last + ((rnum l).1 + 1))).map fun q => ((last + ((rnum l).1 + 1)) :: q.1, (rnum l).2.1 + q.2)
    else none
def rGet (l : List UInt8) (why : Int) : Option (List Int × Nat) :=
  if (rCount l 4096 why).2.2 = 0 then (gg (rCount l 4096 why).1 (l.drop (rCount l 4096 why).2.1) (-1)).map fun q => (q.1, (rCount l 4096 why).2.1 + q.2) else none

/-- A number's bytes are just those that are read as it. -/
theorem rnumF_take : ∀ (l : List UInt8) (i n v m : Nat), (i = 0 → n = 0) → (i ≠ 0 → n ≠ 0) → rnumF l i n = (v, m, 0) → i < m ∧ m - i ≤ l.length ∧ hi n ++ l.take (m - i) = wput v
  | [], i, n, v, m, _, _, h => by simp [rnumF] at h
  | b :: r, i, n, v, m, h0, h1, h => by
    rw [rnumF_cons] at h
    split at h
    · simp at h
    · rename_i hc
      split at h
      · rename_i hb
        simp only [Prod.mk.injEq] at h
        obtain ⟨rfl, rfl, _⟩ := h
        have e : i + 1 - i = 1 := by omega
        refine ⟨by omega, by rw [e]; simp, ?_⟩
        rw [e, wput]
        have e1 : (n * 128 + b.toNat) / 128 = n := by omega
        have e2 : (n * 128 + b.toNat) % 128 = b.toNat := by omega
        rw [e1, e2]
        simp
      · rename_i hb
        have hb2 := b.toNat_lt
        have hn : n * 128 + b.toNat % 128 ≠ 0 := by
          rcases Nat.eq_zero_or_pos i with hi0 | hi0
          · have : b.toNat ≠ 128 := fun e => hc (.inl ⟨hi0, e⟩)
            omega
          · have := h1 (by omega)
            omega
        obtain ⟨k1, k2, k3⟩ := rnumF_take r (i + 1) (n * 128 + b.toNat % 128) v m (fun e => by omega) (fun _ => hn) h
        have e : m - i = (m - (i + 1)) + 1 := by omega
        refine ⟨by omega, by simp; omega, ?_⟩
        rw [e, List.take_succ_cons, ← k3, hi_pos _ hn]
        have e1 : (n * 128 + b.toNat % 128) / 128 = n := by omega
        have e2 : (n * 128 + b.toNat % 128) % 128 = b.toNat % 128 := by omega
        have e3 : UInt8.ofNat (128 + b.toNat % 128) = b := by
          apply UInt8.toNat_inj.1
          rw [UInt8.toNat_ofNat']
          omega
        rw [e1, e2, e3]
        simp
theorem rnum_take {l : List UInt8} {v m : Nat} (h : rnum l = (v, m, 0)) : m ≤ l.length ∧ l.take m = wput v := by
  obtain ⟨_, h2, h3⟩ := rnumF_take l 0 0 v m (fun _ => rfl) (fun h => absurd rfl h) h
  rw [hi_zero] at h3
  exact ⟨h2, h3⟩

theorem gg_take : ∀ (c : Nat) (l : List UInt8) (last : Int) (row : List Int) (k : Nat), gg c l last = some (row, k) → k ≤ l.length ∧ row.length = c ∧ l.take k = gl (some last) row ∧
    (∀ x ∈ row, last < x ∧ x < 4611686018427387904) ∧ (∀ (i : Nat) (x p : Int), row[i + 1]? = some x → row[i]? = some p → p < x)
  | 0, l, last, row, k, h => by
    simp [gg] at h
    obtain ⟨rfl, rfl⟩ := h
    simp [gl]
  | c + 1, l, last, row, k, h => by
    unfold gg at h
    obtain ⟨v, m, e, hq⟩ : ∃ v m e, rnum l = (v, m, e) := ⟨_, _, _, rfl⟩
    rw [hq] at h
    simp only at h
    split at h
    · rename_i hc
      obtain ⟨rfl, hv⟩ := hc
      obtain ⟨hm, ht⟩ := rnum_take hq
      cases hg : gg c (l.drop m) (last + (v + 1)) with
      | none => rw [hg] at h; cases h
      | some q =>
        obtain ⟨r, k'⟩ := q
        rw [hg] at h
        simp only [Option.map_some, Option.some.injEq, Prod.mk.injEq] at h
        obtain ⟨rfl, rfl⟩ := h
        obtain ⟨h1, h2, h3, h4, h5⟩ := gg_take c _ _ r k' hg
        rw [List.length_drop] at h1
        refine ⟨by omega, by simp [h2], ?_, ?_, ?_⟩
        · rw [List.take_add, ht, h3, gl]
          congr 2
          unfold gap
          simp only
          omega
        · intro x hx
          rcases List.mem_cons.1 hx with hx | hx
          · omega
          · have := h4 x hx; omega
        · intro i x p hx hp
          cases i with
          | zero =>
            simp at hp
            simp at hx
            have := h4 x (List.mem_of_getElem? hx)
            omega
          | succ i =>
            simp at hx hp
            exact h5 i x p hx hp
    · cases h
theorem gl_first (r : List Int) : gl (some (-1)) r = gl none r := by
  cases r with
  | nil => rfl
  | cons x r => simp [gl, gap]
theorem rCount_some {l : List UInt8} (h : (rCount l 4096 0).2.2 = 0) : rnum l = rCount l 4096 0 ∧ (rCount l 4096 0).1 ≤ 4096 := by
  unfold rCount at h ⊢
  have e : rNum l 0 = rnum l := by unfold rNum; rw [if_pos rfl]
  rw [e] at h ⊢
  split at h
  · simp at h
  · rename_i hc
    rw [if_neg hc]
    refine ⟨rfl, ?_⟩
    by_cases h1 : (4096 : Int) < (rnum l).1
    · exact absurd ⟨h, h1⟩ hc
    · omega
/-- What is read is a rising row, and just its bytes are taken. -/
theorem rGet_take {l : List UInt8} {row : List Int} {k : Nat} (h : rGet l 0 = some (row, k)) : k ≤ l.length ∧ row.length ≤ 4096 ∧ Rise row ∧ l.take k = gput row := by
  unfold rGet at h
  split at h
  · rename_i h0
    obtain ⟨h1, h2⟩ := rCount_some h0
    obtain ⟨v, m, e, hq⟩ : ∃ v m e, rCount l 4096 0 = (v, m, e) := ⟨_, _, _, rfl⟩
    rw [hq] at h h0 h1 h2
    simp only at h h0 h2
    subst h0
    obtain ⟨hm, ht⟩ := rnum_take h1
    cases hg : gg v (l.drop m) (-1) with
    | none => rw [hg] at h; cases h
    | some q =>
      obtain ⟨r, k'⟩ := q
      rw [hg] at h
      simp only [Option.map_some, Option.some.injEq, Prod.mk.injEq] at h
      obtain ⟨rfl, rfl⟩ := h
      obtain ⟨k1, k2, k3, k4, k5⟩ := gg_take v _ _ r k' hg
      rw [List.length_drop] at k1
      refine ⟨by omega, by omega, ?_, ?_⟩
      · intro i x hx
        have h9 := k4 x (List.mem_of_getElem? hx)
        refine ⟨by omega, h9.2, fun hi p hp => ?_⟩
        obtain ⟨j, rfl⟩ : ∃ j, i = j + 1 := ⟨i - 1, by omega⟩
        exact k5 j x p hx hp
      · rw [List.take_add, ht, k3, gl_first]
        unfold gput
        rw [k2]
  · cases h

theorem gg_gl : ∀ (row : List Int) (last : Int) (r : List UInt8), -1 ≤ last → (∀ x ∈ row, last < x ∧ x < 4611686018427387904) → (∀ (i : Nat) (x p : Int), row[i + 1]? = some x → row[i]? = some p → p < x) →
    gg row.length (gl (some last) row ++ r) last = some (row, (gl (some last) row).length)
  | [], last, r, _, _, _ => by simp [gg, gl]
  | x :: row, last, r, hl, h1, h2 => by
    obtain ⟨hx1, hx2⟩ := h1 x List.mem_cons_self
    have hv : ((gap (some last) x).toNat : Int) = x - (last + 1) := by unfold gap; simp only; omega
    have hw : rnum (gl (some last) (x :: row) ++ r) = ((gap (some last) x).toNat, (wputI (gap (some last) x)).length, 0) := by
      rw [gl, List.append_assoc]
      exact rnum_wput _ _ (by omega)
    have hr : ∀ y ∈ row, x < y ∧ y < 4611686018427387904 := by
      intro y hy
      refine ⟨?_, (h1 y (List.mem_cons_of_mem _ hy)).2⟩
      obtain ⟨j, hj⟩ := List.getElem?_of_mem hy
      have : ∀ (j : Nat) (y : Int), row[j]? = some y → x < y := by
        intro j
        induction j with
        | zero => intro y hy; exact h2 0 y x (by simp only [List.getElem?_cons_succ]; exact hy) rfl
        | succ j ih =>
          intro y hy
          have hjl := (List.getElem?_eq_some_iff.1 hy).1
          have hp : row[j]? = some row[j] := List.getElem?_eq_getElem (by omega)
          have a1 := ih _ hp
          have a2 := h2 (j + 1) y row[j] (by simpa using hy) (by simp)
          omega
      exact this j y hj
    have ih := gg_gl row x r (by omega) hr (fun i a b ha hb => h2 (i + 1) a b (by simpa using ha) (by simpa using hb))
    rw [List.length_cons, gg, hw]
    simp only
    rw [if_pos ⟨trivial, by omega⟩]
    have e1 : last + (((gap (some last) x).toNat : Int) + 1) = x := by omega
    have e2 : (gl (some last) (x :: row) ++ r).drop (wputI (gap (some last) x)).length = gl (some x) row ++ r := by
      rw [gl, List.append_assoc, List.drop_left]
    rw [e1, e2, ih]
    simp [gl]
theorem rGet_gput (row : List Int) (r : List UInt8) (hn : row.length ≤ 4096) (hR : Rise row) : rGet (gput row ++ r) 0 = some (row, (gput row).length) := by
  have hc : rCount (gput row ++ r) 4096 0 = (row.length, (wput row.length).length, 0) := by
    unfold rCount gput
    rw [List.append_assoc, rNum_wput _ _ (by omega), if_neg (by simp; omega)]
  unfold rGet
  rw [hc]
  simp only
  rw [if_pos trivial]
  unfold gput
  rw [List.append_assoc, List.drop_left, ← gl_first]
  have := gg_gl row (-1) r (by omega) (fun x hx => by
    obtain ⟨i, hi⟩ := List.getElem?_of_mem hx
    have := hR i x hi
    omega) (fun i x p hx hp => (hR (i + 1) x hx).2.2 (by omega) p (by simpa using hp))
  rw [this]
  simp
end Go.Proofs.Ytedegdojbhegdaa
