/- Plain: a step read from its words. No program is named here, and nothing is assumed. -/
import Derived.Test.YtimmfcbpdnlfjaaDoorStpH
namespace Go.Proofs.YtimmfcbpdnlfjaaDoor
open Go.RowKit Go.Lib
set_option linter.unusedVariables false
set_option linter.unusedSimpArgs false

theorem wend_plain : ∀ (l : List UInt8) (i : Nat) (t : List UInt8), wend false false i (l.take (wend false false i l - i) ++ 32 :: t) = wend false false i l ∧ wend false false i (l.take (wend false false i l - i)) = wend false false i l
  | [], i, t => by simp [wend]
  | c :: r, i, t => by
    by_cases h : c = 32
    · subst h
      have e : ∀ r' : List UInt8, wend false false i (32 :: r') = i := fun r' => by rw [wend_cons]; simp
      rw [e, Nat.sub_self, List.take_zero, List.nil_append, e]
      exact ⟨rfl, rfl⟩
    · have hw : ∀ r', wend false false i (c :: r') = wend false false (i + 1) r' := fun r' => by rw [wend_cons]; simp [h]
      have ih := wend_plain r (i + 1) t
      have hle := (wend_le false r false (i + 1)).1
      rw [hw, show wend false false (i + 1) r - i = (wend false false (i + 1) r - (i + 1)) + 1 by omega, List.take_succ_cons, List.cons_append, hw, hw]
      exact ih
theorem wend_quoted : ∀ (l : List UInt8) (esc : Bool) (i : Nat) (t : List UInt8), (wend true esc i l - i < l.length → wend true esc i (l.take (wend true esc i l - i) ++ t) = wend true esc i l) ∧ wend true esc i (l.take (wend true esc i l - i)) = wend true esc i l
  | [], esc, i, t => by cases esc <;> simp [wend]
  | c :: r, esc, i, t => by
    have go : ∀ (q2 : Bool), (∀ r', wend true esc i (c :: r') = wend true q2 (i + 1) r') → (wend true esc i (c :: r) - i < (c :: r).length → wend true esc i ((c :: r).take (wend true esc i (c :: r) - i) ++ t) = wend true esc i (c :: r)) ∧ wend true esc i ((c :: r).take (wend true esc i (c :: r) - i)) = wend true esc i (c :: r) := by
      intro q2 hw
      have ih := wend_quoted r q2 (i + 1) t
      have hle := (wend_le true r q2 (i + 1)).1
      rw [hw, show wend true q2 (i + 1) r - i = (wend true q2 (i + 1) r - (i + 1)) + 1 by omega, List.take_succ_cons, List.cons_append, hw, hw]
      exact ⟨fun h => ih.1 (by rw [List.length_cons] at h; omega), ih.2⟩
    cases esc with
    | true => exact go false fun r' => rfl
    | false =>
      by_cases h1 : c = 92
      · exact go true fun r' => by rw [wend_cons]; simp [h1]
      · by_cases h2 : c = 34
        · subst h2
          have e : ∀ r' : List UInt8, wend true false i (34 :: r') = i + 1 := fun r' => by rw [wend_cons]; simp
          rw [e, show i + 1 - i = 1 by omega, List.take_succ_cons, List.take_zero, List.cons_append, e, e]
          exact ⟨fun _ => rfl, rfl⟩
        · exact go false fun r' => by rw [wend_cons]; simp [h1, h2]
theorem endP_take (c : UInt8) (r t : List UInt8) : (((c :: r).drop (endP (c :: r))) ≠ [] → endP ((c :: r).take (endP (c :: r)) ++ 32 :: t) = endP (c :: r)) ∧ endP ((c :: r).take (endP (c :: r))) = endP (c :: r) := by
  have he : ∀ r', endP (c :: r') = wend (c == 34) false 1 r' := fun _ => rfl
  have hle := (wend_le (c == 34) r false 1).1
  rw [he, show wend (c == 34) false 1 r = (wend (c == 34) false 1 r - 1) + 1 by omega, List.take_succ_cons, List.cons_append, he, he]
  rw [show wend (c == 34) false 1 r - 1 + 1 = wend (c == 34) false 1 r by omega]
  cases c == 34 with
  | true =>
    obtain ⟨h1, h2⟩ := wend_quoted r false 1 (32 :: t)
    refine ⟨fun h => h1 ?_, h2⟩
    have := List.length_pos_iff.2 h
    rw [List.length_drop, List.length_cons] at this
    have := (wend_le true r false 1).1
    omega
  | false => exact ⟨fun _ => (wend_plain r 1 t).1, (wend_plain r 1 t).2⟩
theorem joinW_cons (x : List UInt8) {L : List (List UInt8)} (h : L ≠ []) : joinW (x :: L) = x ++ 32 :: joinW L := by
  cases L with
  | nil => exact absurd rfl h
  | cons a t => simp [joinW, joinF]
theorem wordsP_at (x t : List UInt8) (hx : x.head? ≠ some 32) (h0 : x ≠ []) (he : endP (x ++ t) = x.length) : wordsP (x ++ t) = x :: wordsP t := by
  cases x with
  | nil => exact absurd rfl h0
  | cons c r =>
    have hc : c ≠ 32 := fun h => hx (by rw [h]; rfl)
    have := wordsP_word c (r ++ t) hc
    rw [← List.cons_append, he, List.take_left, List.drop_left] at this
    exact this
theorem words_join_n : ∀ (n : Nat) (l : List UInt8), l.length ≤ n → wordsP (joinW (wordsP l)) = wordsP l
  | n, [], _ => rfl
  | 0, c :: r, h => by simp at h
  | n + 1, c :: r, h => by
    by_cases hc : c = 32
    · subst hc
      rw [wordsP_blank]
      exact words_join_n n r (by simpa using h)
    · rw [wordsP_word c r hc]
      have hpos := (endP_le (c :: r)).2 (by simp)
      have hle := (endP_le (c :: r)).1
      have hlen : ((c :: r).drop (endP (c :: r))).length ≤ n := by rw [List.length_drop]; omega
      have ih := words_join_n n _ hlen
      have hx0 : (c :: r).take (endP (c :: r)) ≠ [] := by
        intro e
        rcases List.take_eq_nil_iff.1 e with e | e
        · omega
        · cases e
      have hxh : ((c :: r).take (endP (c :: r))).head? ≠ some 32 := by
        rw [List.head?_take, if_neg (by omega)]
        intro e
        injection e with e
        exact hc e
      have hxl : ((c :: r).take (endP (c :: r))).length = endP (c :: r) := by rw [List.length_take]; omega
      by_cases hW : wordsP ((c :: r).drop (endP (c :: r))) = []
      · rw [hW, joinW_one]
        have := wordsP_at _ [] hxh hx0 (by rw [List.append_nil, hxl]; exact (endP_take c r []).2)
        rw [List.append_nil] at this
        rw [this]
        rfl
      · have hd : (c :: r).drop (endP (c :: r)) ≠ [] := fun e => hW (by rw [e]; rfl)
        rw [joinW_cons _ hW, wordsP_at _ _ hxh hx0 (by rw [hxl]; exact (endP_take c r _).1 hd), wordsP_blank, ih]
theorem words_join (l : List UInt8) : wordsP (joinW (wordsP l)) = wordsP l := words_join_n l.length l (Nat.le_refl _)
/-- A word that stands by itself ahead of a blank, and at the end. -/
def Wd (x : List UInt8) : Prop := x ≠ [] ∧ x.head? ≠ some 32 ∧ endP x = x.length ∧ ∀ t, endP (x ++ 32 :: t) = x.length
theorem wend_none32 : ∀ (l : List UInt8) (i : Nat) (t : List UInt8), 32 ∉ l → wend false false i (l ++ 32 :: t) = i + l.length ∧ wend false false i l = i + l.length
  | [], i, t, _ => by simp [wend]
  | c :: r, i, t, h => by
    have hc : c ≠ 32 := fun e => h (by rw [e]; simp)
    have hw : ∀ r', wend false false i (c :: r') = wend false false (i + 1) r' := fun r' => by rw [wend_cons]; simp [hc]
    have ih := wend_none32 r (i + 1) t (fun e => h (by simp [e]))
    rw [List.cons_append, hw, hw, List.length_cons]
    exact ⟨by rw [ih.1]; omega, by rw [ih.2]; omega⟩
theorem Wd.of_bare {c : UInt8} {r : List UInt8} (h : 32 ∉ (c :: r)) (hq : c ≠ 34) : Wd (c :: r) := by
  have hc : c ≠ 32 := fun e => h (by rw [e]; simp)
  have hr : 32 ∉ r := fun e => h (by simp [e])
  have hb : (c == 34) = false := by simp [hq]
  refine ⟨by simp, fun e => hc (by injection e), ?_, fun t => ?_⟩
  · show wend (c == 34) false 1 r = _
    rw [hb, (wend_none32 r 1 [] hr).2, List.length_cons]
    omega
  · show wend (c == 34) false 1 (r ++ 32 :: t) = _
    rw [hb, (wend_none32 r 1 t hr).1, List.length_cons]
    omega
theorem Wd.of_quote (s : ByteArray) : Wd (quoteP s) := by
  refine ⟨by simp [quoteP], by simp [quoteP], ?_, fun t => endP_quote s _⟩
  have := endP_quote s []
  rwa [List.append_nil] at this
theorem words_flat : ∀ (L : List (List UInt8)) (x tl : List UInt8), (tl = [] ∨ tl.head? = some 32) → wordsP tl = [] → (∀ y ∈ x :: L, Wd y) → wordsP (x ++ (joinF L ++ tl)) = x :: L
  | [], x, tl, h1, h2, hW => by
    obtain ⟨a, b, c, d⟩ := hW x (by simp)
    show wordsP (x ++ ([] ++ tl)) = _
    rw [List.nil_append]
    rcases h1 with rfl | h1
    · rw [wordsP_at x [] b a (by rw [List.append_nil]; exact c)]
      rfl
    · cases tl with
      | nil => cases h1
      | cons q tl =>
        injection h1 with h1
        subst h1
        rw [wordsP_at x _ b a (d tl), h2]
  | y :: L, x, tl, h1, h2, hW => by
    obtain ⟨a, b, c, d⟩ := hW x (by simp)
    have ih := words_flat L y tl h1 h2 (fun z hz => hW z (by simp [List.mem_cons.1 hz]))
    have e : joinF (y :: L) ++ tl = 32 :: (y ++ (joinF L ++ tl)) := by simp [joinF]
    rw [e, wordsP_at x _ b a (d _), wordsP_blank, ih]
theorem numW_wd (x : Int) : numW x = [] ∨ (Wd (numW x) ∧ ∃ n : Nat, x = n ∧ n ≤ 1125899906842624 ∧ numW x = dec n) := by
  unfold numW
  by_cases h : 0 ≤ x ∧ x ≤ 1125899906842624
  · rw [if_pos h]
    obtain ⟨n, rfl⟩ := Int.eq_ofNat_of_zero_le h.1
    refine .inr ⟨?_, n, rfl, by omega, rfl⟩
    obtain ⟨_, h2, h3⟩ := dec_big n
    rw [Int.toNat_natCast]
    cases hd : dec n with
    | nil =>
      have := dec_length_pos n
      rw [hd] at this
      exact absurd this (by simp)
    | cons c r =>
      rw [hd] at h2
      have hall := List.all_eq_true.1 h2
      refine Wd.of_bare (fun h => ?_) ?_
      · have := hall 32 h
        revert this
        decide
      · rintro rfl
        have := hall 34 (by simp)
        revert this
        decide
  · rw [if_neg h]
    exact .inl rfl
theorem wordW_wd {l : List (List UInt8)} (hl : ∀ y ∈ l, Wd y) (x : Int) : wordW l x = [] ∨ Wd (wordW l x) := by
  unfold wordW
  split
  · rename_i h
    right
    have hk : (x - 1).toNat < l.length := by omega
    rw [List.getD_eq_getElem?_getD, List.getElem?_eq_getElem hk, Option.getD_some]
    exact hl _ (List.getElem_mem hk)
  · exact .inl rfl
theorem tabN_wd : ∀ y ∈ tabN, Wd y := by
  intro y hy
  simp only [tabN, List.mem_cons, List.not_mem_nil, or_false] at hy
  rcases hy with rfl | rfl
  all_goals exact Wd.of_bare (by decide) (by decide)
theorem levN_wd : ∀ y ∈ levN, Wd y := by
  intro y hy
  simp only [levN, List.mem_cons, List.not_mem_nil, or_false] at hy
  rcases hy with rfl | rfl | rfl
  all_goals exact Wd.of_bare (by decide) (by decide)
theorem textW_wd (s : ByteArray) : textW s = [] ∨ Wd (textW s) := by
  unfold textW
  split
  · exact .inl rfl
  · exact .inr (Wd.of_quote s)
theorem tellP_wd (s : Stp) (p : Pt) : tellP s p = [] ∨ Wd (tellP s p) := by
  cases p
  · exact (numW_wd _).imp id And.left
  · exact (numW_wd _).imp id And.left
  · show (if s.ctx < -1 ∨ 1125899906842624 ≤ s.ctx then [] else numW (s.ctx + 1)) = [] ∨ Wd (if s.ctx < -1 ∨ 1125899906842624 ≤ s.ctx then [] else numW (s.ctx + 1))
    split
    · exact .inl rfl
    · exact (numW_wd _).imp id And.left
  · exact wordW_wd tabN_wd _
  · exact wordW_wd levN_wd _
  · exact textW_wd _
  · exact textW_wd _
  · exact textW_wd _
theorem form_wd (k : Int) (hk : 1 ≤ k ∧ k ≤ 17) : Wd (formP k).1 := by
  have hc : k = 1 ∨ k = 2 ∨ k = 3 ∨ k = 4 ∨ k = 5 ∨ k = 6 ∨ k = 7 ∨ k = 8 ∨ k = 9 ∨ k = 10 ∨ k = 11 ∨ k = 12 ∨ k = 13 ∨ k = 14 ∨ k = 15 ∨ k = 16 ∨ k = 17 := by omega
  rcases hc with rfl | rfl | rfl | rfl | rfl | rfl | rfl | rfl | rfl | rfl | rfl | rfl | rfl | rfl | rfl | rfl | rfl
  all_goals exact Wd.of_bare (by decide) (by decide)
theorem form_nodup (k : Int) (hk : 1 ≤ k ∧ k ≤ 17) : (formP k).2.Nodup ∧ (formP k).2.length ≤ 6 := by
  have hc : k = 1 ∨ k = 2 ∨ k = 3 ∨ k = 4 ∨ k = 5 ∨ k = 6 ∨ k = 7 ∨ k = 8 ∨ k = 9 ∨ k = 10 ∨ k = 11 ∨ k = 12 ∨ k = 13 ∨ k = 14 ∨ k = 15 ∨ k = 16 ∨ k = 17 := by omega
  rcases hc with rfl | rfl | rfl | rfl | rfl | rfl | rfl | rfl | rfl | rfl | rfl | rfl | rfl | rfl | rfl | rfl | rfl
  all_goals exact ⟨by decide, by decide⟩
/-- Which kind has a word; 0: none. -/
def kindP (w : List UInt8) : Int := if w ∈ forms.map (·.1) then ((forms.map (·.1)).idxOf w + 1 : Nat) else 0
theorem kind_form (k : Int) (hk : 1 ≤ k ∧ k ≤ 17) (w : List UInt8) : (formP k).1 = w ↔ kindP w = k := by
  constructor
  · rintro rfl
    have hc : k = 1 ∨ k = 2 ∨ k = 3 ∨ k = 4 ∨ k = 5 ∨ k = 6 ∨ k = 7 ∨ k = 8 ∨ k = 9 ∨ k = 10 ∨ k = 11 ∨ k = 12 ∨ k = 13 ∨ k = 14 ∨ k = 15 ∨ k = 16 ∨ k = 17 := by omega
    rcases hc with rfl | rfl | rfl | rfl | rfl | rfl | rfl | rfl | rfl | rfl | rfl | rfl | rfl | rfl | rfl | rfl | rfl
    all_goals decide
  · intro h
    unfold kindP at h
    split at h
    · rename_i hm
      have hi := List.idxOf_lt_length_of_mem hm
      have hg := List.getElem_idxOf hi
      have hl : (forms.map (·.1)).length = 17 := rfl
      unfold formP
      rw [if_pos hk, show (k - 1).toNat = (forms.map (·.1)).idxOf w by omega]
      rw [List.getD_eq_getElem?_getD, List.getElem?_eq_getElem (by rw [List.length_map] at hi; exact hi), Option.getD_some]
      rw [List.getElem_map] at hg
      exact hg
    · omega
theorem kindP_range (w : List UInt8) : kindP w = 0 ∨ (1 ≤ kindP w ∧ kindP w ≤ 17) := by
  unfold kindP
  split
  · rename_i hm
    have hi := List.idxOf_lt_length_of_mem hm
    have hl : (forms.map (·.1)).length = 17 := rfl
    right
    omega
  · exact .inl rfl
/-- A step of a kind, and nothing else. -/
def bareK (k : Int) : Stp where
  kind := k
  n := 0
  ticks := 0
  tab := 0
  lev := 0
  key := ⟨#[]⟩
  en := ⟨#[]⟩
  val := ⟨#[]⟩
  ctx := -1
/-- The parts read one by one. -/
def takesP (s : Stp) : List Pt → List (List UInt8) → Option Stp
  | p :: ps, x :: xs => if (takeP s ⟨x.toArray⟩ p).2 = true then takesP (takeP s ⟨x.toArray⟩ p).1 ps xs else none
  | _, _ => some s
theorem takesP_snoc : ∀ (ps : List Pt) (xs : List (List UInt8)) (s : Stp) (p : Pt) (x : List UInt8), ps.length = xs.length → takesP s (ps ++ [p]) (xs ++ [x]) = (takesP s ps xs).bind fun s1 => if (takeP s1 ⟨x.toArray⟩ p).2 = true then some (takeP s1 ⟨x.toArray⟩ p).1 else none
  | [], [], s, p, x, _ => by simp [takesP]
  | q :: ps, y :: xs, s, p, x, h => by
    have ih := fun s1 => takesP_snoc ps xs s1 p x (by simpa using h)
    simp only [List.cons_append, takesP]
    split
    · exact ih _
    · rfl
/-- The parts as the reference reads them. -/
inductive RefF (s : Stp) : List Pt → List (List UInt8) → Stp → Prop
  | nil : RefF s [] [] s
  | snoc (ps : List Pt) (xs : List (List UInt8)) (s1 : Stp) (p : Pt) (x : List UInt8) (m : Int) : RefF s ps xs s1 → (∀ n : Nat, rd x = some n → m = n) → RefF s (ps ++ [p]) (xs ++ [x]) (refTake s1 ⟨x.toArray⟩ m p)
theorem RefF.length {s s1 : Stp} {ps : List Pt} {xs : List (List UInt8)} (h : RefF s ps xs s1) : ps.length = xs.length := by
  induction h with
  | nil => rfl
  | snoc ps xs s1 p x m _ _ ih => simp [ih]
theorem bl_to (x : List UInt8) : bl ⟨x.toArray⟩ = x := rfl
theorem rd_none_num {x : List UInt8} (h : (rdErr x == 0) = true) : ∃ n : Nat, rd x = some n ∧ n ≤ 1125899906842624 ∧ rdNum x = n ∧ dec n = x := by
  unfold rdErr at h
  cases hr : rd x with
  | none => rw [hr] at h; exact absurd h (by decide)
  | some n =>
    obtain ⟨_, h2, h3, _⟩ := rd_some hr
    exact ⟨n, rfl, h3, by unfold rdNum; rw [hr], h2⟩
theorem dec_ne (n : Nat) : dec n ≠ [] := by
  intro e
  have := dec_length_pos n
  rw [e] at this
  exact absurd this (by simp)
theorem numW_dec (n : Nat) (h : n ≤ 1125899906842624) : numW (n : Int) = dec n := by
  unfold numW
  rw [if_pos ⟨by omega, by omega⟩, Int.toNat_natCast]
theorem unq_text {x : ByteArray} (h : unqE x = 0) : quoteP (unqT x) = bl x ∧ refT x = unqT x := by
  unfold unqE at h
  by_cases hk : unqOk x
  · have hq : quoteP (unqT x) = bl x := by
      unfold unqT
      rw [if_pos hk]
      exact hk.2.2.2
    refine ⟨hq, ?_⟩
    unfold refT
    rw [ref_quote x _ hq]
    exact (bl_is _).symm
  · rw [if_neg hk] at h
    cases h
theorem unq_of {x t : ByteArray} (h : quoteP t = bl x) : unqE x = 0 ∧ unqT x = t := by
  have h1 := unqV_quote x t h
  rw [unqV_eq] at h1
  injection h1 with h1
  have h2 := congrArg (fun a : Array Value => a[0]?) h1
  have h3 := congrArg (fun a : Array Value => a[1]?) h1
  simp at h2 h3
  exact ⟨h3, h2⟩
theorem posN_word {l : List (List UInt8)} {x : List UInt8} (h : (((posN l x : Nat) : Int) != 0) = true) : wordW l (posN l x : Nat) = x ∧ x ∈ l := by
  unfold posN at h ⊢
  by_cases hx : x ∈ l
  · rw [if_pos hx]
    have hi := List.idxOf_lt_length_of_mem hx
    refine ⟨?_, hx⟩
    unfold wordW
    rw [if_pos ⟨by omega, by omega⟩, show (((l.idxOf x + 1 : Nat) : Int) - 1).toNat = l.idxOf x by omega]
    rw [List.getD_eq_getElem?_getD, List.getElem?_eq_getElem hi, Option.getD_some]
    exact List.getElem_idxOf hi
  · rw [if_neg hx] at h
    exact absurd h (by decide)
theorem wordW_zero (l : List (List UInt8)) : wordW l 0 = [] := by
  unfold wordW
  rw [if_neg (by omega)]
theorem wrap_ctx (n : Nat) (h : n ≤ 1125899906842624) : wrap64 ((n : Int) - 1) = (n : Int) - 1 := by
  unfold wrap64
  omega
theorem text_take {x : ByteArray} (h : (unqE x == 0 && decide (((unqT x).size : Int) ≤ 64)) = true) : textW (unqT x) = bl x ∧ bl x ≠ [] ∧ refT x = unqT x := by
  rw [Bool.and_eq_true] at h
  obtain ⟨h1, h2⟩ := unq_text (eq_of_beq h.1)
  have h3 : ¬ 64 < (unqT x).size := by have := of_decide_eq_true h.2; omega
  refine ⟨by unfold textW; rw [if_neg h3]; exact h1, ?_, h2⟩
  rw [← h1]
  simp [quoteP]
theorem text_ref {x : ByteArray} (h : textW (refT x) = bl x) (h0 : bl x ≠ []) : (unqE x == 0 && decide (((unqT x).size : Int) ≤ 64)) = true ∧ unqT x = refT x := by
  unfold textW at h
  split at h
  · exact absurd h.symm h0
  · obtain ⟨h1, h2⟩ := unq_of h
    refine ⟨?_, h2⟩
    rw [h1, h2, Bool.and_eq_true]
    exact ⟨rfl, by simp; omega⟩
/-- What the program reads as a part is told as that word, and the reference reads it alike. -/
theorem take_ok (s : Stp) (x : ByteArray) (p : Pt) (h : (takeP s x p).2 = true) : tellP (takeP s x p).1 p = bl x ∧ bl x ≠ [] ∧ ∀ m : Int, (∀ n : Nat, rd (bl x) = some n → m = n) → refTake s x m p = (takeP s x p).1 := by
  cases p
  case n =>
    obtain ⟨n, h1, h2, h3, h4⟩ := rd_none_num h
    refine ⟨?_, by rw [← h4]; exact dec_ne n, fun m hm => ?_⟩
    · show numW (rdNum (bl x)) = _
      rw [h3, numW_dec n h2, h4]
    · show ({ s with n := m } : Stp) = { s with n := rdNum (bl x) }
      rw [h3, hm n h1]
  case t =>
    obtain ⟨n, h1, h2, h3, h4⟩ := rd_none_num h
    refine ⟨?_, by rw [← h4]; exact dec_ne n, fun m hm => ?_⟩
    · show numW (rdNum (bl x)) = _
      rw [h3, numW_dec n h2, h4]
    · show ({ s with ticks := m } : Stp) = { s with ticks := rdNum (bl x) }
      rw [h3, hm n h1]
  case c =>
    obtain ⟨n, h1, h2, h3, h4⟩ := rd_none_num h
    refine ⟨?_, by rw [← h4]; exact dec_ne n, fun m hm => ?_⟩
    · show (if rdNum (bl x) - 1 < -1 ∨ 1125899906842624 ≤ rdNum (bl x) - 1 then [] else numW (rdNum (bl x) - 1 + 1)) = _
      rw [h3, if_neg (by omega), show (n : Int) - 1 + 1 = n by omega, numW_dec n h2, h4]
    · show ({ s with ctx := wrap64 (m - 1) } : Stp) = { s with ctx := rdNum (bl x) - 1 }
      rw [h3, hm n h1, wrap_ctx n h2]
  case a =>
    obtain ⟨h1, h2⟩ := posN_word h
    exact ⟨h1, (tabN_wd _ h2).1, fun _ _ => rfl⟩
  case l =>
    obtain ⟨h1, h2⟩ := posN_word h
    exact ⟨h1, (levN_wd _ h2).1, fun _ _ => rfl⟩
  case k =>
    obtain ⟨h1, h2, h3⟩ := text_take h
    exact ⟨h1, h2, fun m _ => by show ({ s with key := refT x } : Stp) = { s with key := unqT x }; rw [h3]⟩
  case e =>
    obtain ⟨h1, h2, h3⟩ := text_take h
    exact ⟨h1, h2, fun m _ => by show ({ s with en := refT x } : Stp) = { s with en := unqT x }; rw [h3]⟩
  case v =>
    obtain ⟨h1, h2, h3⟩ := text_take h
    exact ⟨h1, h2, fun m _ => by show ({ s with val := refT x } : Stp) = { s with val := unqT x }; rw [h3]⟩
theorem num_ref {x : List UInt8} {m : Int} (h : numW m = x) (h0 : x ≠ []) : (rdErr x == 0) = true ∧ rdNum x = m := by
  rcases numW_wd m with e | ⟨_, n, rfl, h2, h3⟩
  · rw [e] at h
    exact absurd h.symm h0
  · have hr : rd x = some n := by rw [← h, h3, rd_dec n h2]
    exact ⟨by unfold rdErr; rw [hr]; rfl, by unfold rdNum; rw [hr]⟩
/-- What is told as the word that the reference read, the program reads alike. -/
theorem take_ref (s : Stp) (x : ByteArray) (p : Pt) (m : Int) (hm : ∀ n : Nat, rd (bl x) = some n → m = n) (h : tellP (refTake s x m p) p = bl x) (h0 : bl x ≠ []) : (takeP s x p).2 = true ∧ (takeP s x p).1 = refTake s x m p := by
  cases p
  case n =>
    obtain ⟨h1, h2⟩ := num_ref (show numW m = bl x from h) h0
    exact ⟨h1, by show ({ s with n := rdNum (bl x) } : Stp) = { s with n := m }; rw [h2]⟩
  case t =>
    obtain ⟨h1, h2⟩ := num_ref (show numW m = bl x from h) h0
    exact ⟨h1, by show ({ s with ticks := rdNum (bl x) } : Stp) = { s with ticks := m }; rw [h2]⟩
  case c =>
    replace h : (if wrap64 (m - 1) < -1 ∨ 1125899906842624 ≤ wrap64 (m - 1) then [] else numW (wrap64 (m - 1) + 1)) = bl x := h
    split at h
    · exact absurd h.symm h0
    · obtain ⟨h1, h2⟩ := num_ref h h0
      exact ⟨h1, by show ({ s with ctx := rdNum (bl x) - 1 } : Stp) = { s with ctx := wrap64 (m - 1) }; rw [h2, Int.add_sub_cancel]⟩
  case a =>
    refine ⟨?_, rfl⟩
    show (((posN tabN (bl x) : Nat) : Int) != 0) = true
    by_cases hz : posN tabN (bl x) = 0
    · replace h : wordW tabN (posN tabN (bl x) : Nat) = bl x := h
      rw [hz] at h
      rw [show ((0 : Nat) : Int) = 0 from rfl, wordW_zero] at h
      exact absurd h.symm h0
    · simp; omega
  case l =>
    refine ⟨?_, rfl⟩
    show (((posN levN (bl x) : Nat) : Int) != 0) = true
    by_cases hz : posN levN (bl x) = 0
    · replace h : wordW levN (posN levN (bl x) : Nat) = bl x := h
      rw [hz] at h
      rw [show ((0 : Nat) : Int) = 0 from rfl, wordW_zero] at h
      exact absurd h.symm h0
    · simp; omega
  case k =>
    obtain ⟨h1, h2⟩ := text_ref (show textW (refT x) = bl x from h) h0
    exact ⟨h1, by show ({ s with key := unqT x } : Stp) = { s with key := refT x }; rw [h2]⟩
  case e =>
    obtain ⟨h1, h2⟩ := text_ref (show textW (refT x) = bl x from h) h0
    exact ⟨h1, by show ({ s with en := unqT x } : Stp) = { s with en := refT x }; rw [h2]⟩
  case v =>
    obtain ⟨h1, h2⟩ := text_ref (show textW (refT x) = bl x from h) h0
    exact ⟨h1, by show ({ s with val := unqT x } : Stp) = { s with val := refT x }; rw [h2]⟩
theorem tell_far (s : Stp) (x : ByteArray) (m : Int) (p q : Pt) (h : q ≠ p) : tellP (refTake s x m p) q = tellP s q := by
  cases p <;> cases q <;> first | exact absurd rfl h | rfl
theorem bare_take (s : Stp) (x : ByteArray) (m : Int) (p : Pt) (Q : List Pt) (h : p ∈ Q) : bareB (refTake s x m p) Q = bareB s Q := by
  have hc : Q.contains p = true := by simpa using h
  cases p
  all_goals
    unfold bareB refTake
    simp only [hc, Bool.true_or]
theorem RefF.bare {s s1 : Stp} {ps : List Pt} {xs : List (List UInt8)} (h : RefF s ps xs s1) (Q : List Pt) (hQ : ∀ p ∈ ps, p ∈ Q) : bareB s1 Q = bareB s Q ∧ s1.kind = s.kind := by
  induction h with
  | nil => exact ⟨rfl, rfl⟩
  | snoc ps xs s1 p x m _ _ ih =>
    have := ih fun q hq => hQ q (by simp [hq])
    refine ⟨by rw [bare_take _ _ _ _ _ (hQ p (by simp))]; exact this.1, ?_⟩
    rw [← this.2]
    cases p <;> rfl
theorem bareK_bare (k : Int) (Q : List Pt) : bareB (bareK k) Q = true := by
  unfold bareB bareK
  rw [toList_nil]
  simp
theorem RefF.told {s s1 : Stp} {ps : List Pt} {xs : List (List UInt8)} (h : RefF s ps xs s1) (hn : ps.Nodup) :
    (∀ s2, takesP s ps xs = some s2 → s2 = s1 ∧ ps.map (tellP s1) = xs ∧ [] ∉ xs) ∧ (ps.map (tellP s1) = xs → [] ∉ xs → takesP s ps xs = some s1) := by
  induction h with
  | nil => exact ⟨fun s2 h => ⟨by injection h with h; exact h.symm, rfl, by simp⟩, fun _ _ => rfl⟩
  | snoc ps xs s1 p x m hR hm ih =>
    obtain ⟨hn1, hn2⟩ : ps.Nodup ∧ p ∉ ps := by
      have := List.nodup_append.1 hn
      exact ⟨this.1, fun hp => this.2.2 p hp p (by simp) rfl⟩
    obtain ⟨ih1, ih2⟩ := ih hn1
    have hl := hR.length
    have hmap : ps.map (tellP (refTake s1 ⟨x.toArray⟩ m p)) = ps.map (tellP s1) := List.map_congr_left fun q hq => tell_far _ _ _ _ _ (fun e => hn2 (e ▸ hq))
    rw [takesP_snoc ps xs s p x hl]
    constructor
    · intro s2 h
      cases ht : takesP s ps xs with
      | none => rw [ht] at h; cases h
      | some s3 =>
        obtain ⟨rfl, h2, h3⟩ := ih1 s3 ht
        rw [ht, Option.bind_some] at h
        split at h
        · rename_i hk
          obtain ⟨k1, k2, k3⟩ := take_ok s3 ⟨x.toArray⟩ p hk
          injection h with h
          rw [bl_to] at k1 k2 k3
          have e := k3 m hm
          refine ⟨by rw [← h, e], ?_, ?_⟩
          · rw [List.map_append, hmap, h2, List.map_singleton, e, k1]
          · simp only [List.mem_append, List.mem_singleton]
            rintro (h | h)
            · exact h3 h
            · exact k2 h.symm
        · cases h
    · intro h h0
      rw [List.map_append, hmap] at h
      obtain ⟨h1, h2⟩ := List.append_inj h (by rw [List.length_map, hl])
      rw [ih2 h1 (fun e => h0 (by simp [e])), Option.bind_some]
      rw [List.map_singleton] at h2
      injection h2 with h2
      obtain ⟨k1, k2⟩ := take_ref s1 ⟨x.toArray⟩ p m hm (by rw [bl_to]; exact h2) (by rw [bl_to]; intro e; exact h0 (by simp [e]))
      rw [if_pos k1, k2]
theorem tells_some (s : Stp) (ps : List Pt) (h : [] ∉ ps.map (tellP s)) : tellsP s ps = some (joinF (ps.map (tellP s))) := by
  unfold tellsP
  rw [if_neg]
  · unfold joinF
    rw [List.flatMap_map]
  · intro hh
    obtain ⟨p, hp, he⟩ := List.any_eq_true.1 hh
    exact h (List.mem_map.2 ⟨p, hp, List.isEmpty_iff.1 he⟩)
theorem line_words (s : Stp) (hne : lineP s ≠ []) : (1 ≤ s.kind ∧ s.kind ≤ 17) ∧ bareB s (formP s.kind).2 = true ∧ [] ∉ (formP s.kind).2.map (tellP s) ∧ lineP s = (formP s.kind).1 ++ joinF ((formP s.kind).2.map (tellP s)) ∧
    ∀ tl : List UInt8, (tl = [] ∨ tl.head? = some 32) → wordsP tl = [] → wordsP (lineP s ++ tl) = (formP s.kind).1 :: (formP s.kind).2.map (tellP s) := by
  have hk : 1 ≤ s.kind ∧ s.kind ≤ 17 := by
    rcases kind_cases s.kind with h | ⟨h, _⟩
    · exact h
    · exfalso
      apply hne
      unfold lineP
      rw [h, if_pos (.inl rfl)]
  unfold lineP at hne
  split at hne
  · exact absurd rfl hne
  · rename_i hb
    have hb2 : bareB s (formP s.kind).2 = true := by
      cases h : bareB s (formP s.kind).2 with
      | true => rfl
      | false => exact absurd (.inr h) hb
    have h0 : [] ∉ (formP s.kind).2.map (tellP s) := by
      intro h
      obtain ⟨p, hp, he⟩ := List.mem_map.1 h
      apply hne
      have : tellsP s (formP s.kind).2 = none := by
        unfold tellsP
        rw [if_pos (List.any_eq_true.2 ⟨p, hp, by rw [he]; rfl⟩)]
      rw [this]
    have hl : lineP s = (formP s.kind).1 ++ joinF ((formP s.kind).2.map (tellP s)) := by
      unfold lineP
      rw [if_neg hb, tells_some s _ h0]
    refine ⟨hk, hb2, h0, hl, fun tl h1 h2 => ?_⟩
    rw [hl, List.append_assoc]
    refine words_flat _ _ tl h1 h2 fun y hy => ?_
    rcases List.mem_cons.1 hy with rfl | hy
    · exact form_wd _ hk
    · obtain ⟨p, hp, rfl⟩ := List.mem_map.1 hy
      rcases tellP_wd s p with e | e
      · exact absurd (List.mem_map.2 ⟨p, hp, e⟩) h0
      · exact e
theorem joinW_first (x : List UInt8) (L : List (List UInt8)) : joinW (x :: L) = x ++ joinF L := by
  simp [joinW, joinF]
/-- The step whose line the words are: what the program reads, and what the reference reads. -/
theorem read_line (k : Int) (hk : 1 ≤ k ∧ k ≤ 17) (l : List UInt8) (xs : List (List UInt8)) (hW : wordsP l = (formP k).1 :: xs) (s1 : Stp) (h : RefF (bareK k) (formP k).2 xs s1) :
    (∀ s2, takesP (bareK k) (formP k).2 xs = some s2 → s2 = s1 ∧ lineP s1 = joinW (wordsP l)) ∧ (takesP (bareK k) (formP k).2 xs = none → lineP s1 ≠ joinW (wordsP l)) := by
  obtain ⟨h1, h2⟩ := h.told (form_nodup k hk).1
  obtain ⟨hb, hkind⟩ := h.bare (formP k).2 (fun _ h => h)
  rw [bareK_bare] at hb
  replace hkind : s1.kind = k := hkind
  constructor
  · intro s2 ht
    obtain ⟨rfl, h3, h4⟩ := h1 s2 ht
    refine ⟨rfl, ?_⟩
    rw [hW, joinW_first]
    unfold lineP
    rw [hkind, if_neg (by
      rintro (e | e)
      · exact (form_wd k hk).1 e
      · rw [hb] at e; cases e), tells_some s2 _ (by rw [h3]; exact h4), h3]
  · intro ht hl
    have hne : lineP s1 ≠ [] := by
      rw [hl, hW, joinW_first]
      intro e
      exact (form_wd k hk).1 (List.append_eq_nil_iff.1 e).1
    obtain ⟨_, _, h0, _, h4⟩ := line_words s1 hne
    have h5 := h4 [] (.inl rfl) rfl
    rw [List.append_nil, hl, words_join, hW, hkind] at h5
    injection h5 with _ h5
    rw [hkind, ← h5] at h0
    rw [h2 h5.symm h0] at ht
    cases ht
/-- What the program reads out of a line. -/
def readP (l : List UInt8) : Option Stp := match wordsP l with
  | [] => none
  | x :: xs => if 800 < l.length then none else if kindP x = 0 then none else if xs.length ≠ (formP (kindP x)).2.length then none else takesP (bareK (kindP x)) (formP (kindP x)).2 xs
end Go.Proofs.YtimmfcbpdnlfjaaDoor
