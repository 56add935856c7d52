/- Plain: the text that some quotes are of, for both programs; quotes in a line are one word. No program is named here. -/
import Derived.Test.YtimmfcbpdnlfjaaDoorRnU
namespace Go.Proofs.YtimmfcbpdnlfjaaDoor
open Go.RowKit Go.Lib

/-- The text whose quotes these are, and whether there is one. -/
def unqV (s : ByteArray) : Value :=
  if 2 ≤ s.size ∧ (s.get! 0).toNat = 34 ∧ (s.get! (s.size - 1)).toNat = 34 ∧ quoteP ⟨(backP (bl (s.extract 1 (s.size - 1)))).toArray⟩ = bl s then .tuple #[.string ⟨(backP (bl (s.extract 1 (s.size - 1)))).toArray⟩, .int .i64 0]
  else .tuple #[.string ⟨#[]⟩, .int .i64 10]

theorem quote_inv (s t : ByteArray) (h : quoteP t = bl s) : 2 ≤ s.size ∧ (s.get! 0).toNat = 34 ∧ (s.get! (s.size - 1)).toNat = 34 ∧ bl (s.extract 1 (s.size - 1)) = bq t 0 := by
  have hl := bl_length s
  rw [← h] at hl
  have hn : s.size = (bq t 0).length + 2 := by rw [← hl]; simp [quoteP]
  have h0 : (bl s)[0]? = some 34 := by rw [← h]; rfl
  have h1 : (bl s)[s.size - 1]? = some 34 := by
    rw [← h, hn, quoteP, show (bq t 0).length + 2 - 1 = (bq t 0).length + 1 by omega, List.getElem?_cons_succ, List.getElem?_append_right (Nat.le_refl _), Nat.sub_self]
    rfl
  have g : ∀ k (hk : k < s.size), (bl s)[k]? = some s[k] := fun k hk => by
    rw [List.getElem?_eq_getElem (by rw [bl_length]; exact hk), bl_get s k hk]
  rw [g 0 (by omega)] at h0
  rw [g (s.size - 1) (by omega)] at h1
  injection h0 with h0
  injection h1 with h1
  refine ⟨by omega, by rw [get!_eq s 0 (by omega), h0]; rfl, by rw [get!_eq s (s.size - 1) (by omega), h1]; rfl, ?_⟩
  rw [bl_extract, ← h, hn, quoteP, show (bq t 0).length + 2 - 1 = (bq t 0).length + 1 by omega, List.take_succ_cons, List.drop_succ_cons, List.drop_zero, List.take_left]
theorem back_quote (s t : ByteArray) (h : quoteP t = bl s) : (⟨(backP (bl (s.extract 1 (s.size - 1)))).toArray⟩ : ByteArray) = t := by
  rw [(quote_inv s t h).2.2.2, backP_bq t t.size 0 (by omega), List.drop_zero]
  exact (bl_is t).symm
theorem unqV_quote (s t : ByteArray) (h : quoteP t = bl s) : unqV s = .tuple #[.string t, .int .i64 0] := by
  obtain ⟨h1, h2, h3, _⟩ := quote_inv s t h
  unfold unqV
  rw [back_quote s t h, if_pos ⟨h1, h2, h3, h⟩]
theorem ref_quote (s t : ByteArray) (h : quoteP t = bl s) : refP ((bl s).drop 1) = some (bl t) := by
  rw [← h, quoteP, List.drop_succ_cons, List.drop_zero, refP_bq t t.size 0 (by omega), List.drop_zero]
theorem unq_cases (s : ByteArray) : (∃ t : ByteArray, quoteP t = bl s ∧ unqV s = .tuple #[.string t, .int .i64 0] ∧ refP ((bl s).drop 1) = some (bl t)) ∨
    (unqV s = .tuple #[.string ⟨#[]⟩, .int .i64 10] ∧ ∀ o, refP ((bl s).drop 1) = some o → quoteP ⟨o.toArray⟩ ≠ bl s) := by
  by_cases h : ∃ t : ByteArray, quoteP t = bl s
  · obtain ⟨t, h⟩ := h
    exact .inl ⟨t, h, unqV_quote s t h, ref_quote s t h⟩
  · refine .inr ⟨?_, fun o _ e => h ⟨_, e⟩⟩
    unfold unqV
    rw [if_neg (fun e => h ⟨_, e.2.2.2⟩)]
/-- What the reference says of some quotes. -/
def refV (s : ByteArray) : Value := match refP ((bl s).drop 1) with
  | some o => .tuple #[.string ⟨o.toArray⟩, .bool (decide (quoteP ⟨o.toArray⟩ = bl s))]
  | none => .tuple #[.string ⟨#[]⟩, .bool false]
theorem refV_yes (s t : ByteArray) (h : quoteP t = bl s) : refV s = .tuple #[.string t, .bool true] := by
  unfold refV
  rw [ref_quote s t h]
  have e : (⟨(bl t).toArray⟩ : ByteArray) = t := (bl_is t).symm
  simp only
  rw [e, h, decide_eq_true rfl]
theorem both (s : ByteArray) : (∃ t : ByteArray, unqV s = .tuple #[.string t, .int .i64 0] ∧ refV s = .tuple #[.string t, .bool true]) ∨
    (unqV s = .tuple #[.string ⟨#[]⟩, .int .i64 10] ∧ ∃ u : ByteArray, refV s = .tuple #[.string u, .bool false]) := by
  rcases unq_cases s with ⟨t, h, h1, _⟩ | ⟨h1, h2⟩
  · exact .inl ⟨t, h1, refV_yes s t h⟩
  · refine .inr ⟨h1, ?_⟩
    unfold refV
    cases h : refP ((bl s).drop 1) with
    | none => exact ⟨_, rfl⟩
    | some o => exact ⟨_, by simp only; rw [decide_eq_false (h2 o h)]⟩

theorem endP_quote (s : ByteArray) (t : List UInt8) : endP (quoteP s ++ t) = (quoteP s).length := by
  show wend true false 1 ((bq s 0 ++ [34]) ++ t) = _
  rw [List.append_assoc, wend_bq s _ s.size 0 1 (by omega)]
  show wend true false _ (34 :: t) = _
  rw [wend_cons, if_neg (by simp), if_pos ⟨rfl, rfl⟩]
  simp [quoteP]
  omega
theorem words_quote (s : ByteArray) (t : List UInt8) : wordsP (quoteP s ++ t) = quoteP s :: wordsP t := by
  have h := wordsP_word 34 ((bq s 0 ++ [34]) ++ t) (by decide)
  have e : (34 : UInt8) :: ((bq s 0 ++ [34]) ++ t) = quoteP s ++ t := rfl
  rw [e, endP_quote, List.take_left, List.drop_left] at h
  exact h
theorem words_back (s : ByteArray) : wordsP ([32, 32] ++ quoteP s ++ [32] ++ quoteP s ++ [32, 120]) = [quoteP s, quoteP s, [120]] := by
  have e : [32, 32] ++ quoteP s ++ [32] ++ quoteP s ++ [32, 120] = 32 :: 32 :: (quoteP s ++ (32 :: (quoteP s ++ [32, 120]))) := by simp
  rw [e, wordsP_blank, wordsP_blank, words_quote, wordsP_blank, words_quote, wordsP_blank]
  rfl
theorem quoteP_len_le (s : ByteArray) : (quoteP s).length ≤ 4 * s.size + 2 := by
  have piece : ∀ k (_ : k < s.size), (q1 s k).length ≤ 4 * (Utf8.decode s k).2 := by
    intro k hk
    obtain ⟨r, d, hD, hd, _⟩ := decode_some s k hk
    rw [hD]
    dsimp only
    unfold q1
    rw [hD]
    split
    · show 4 ≤ _
      omega
    · split
      · show 2 ≤ _
        omega
      · dsimp only
        rw [List.length_take]
        omega
  have all : ∀ (m k : Nat), s.size - k ≤ m → k ≤ s.size → (bq s k).length ≤ 4 * (s.size - k) := by
    intro m
    induction m with
    | zero => intro k h hk; rw [bq_end s k (by omega)]; simp
    | succ m ih =>
      intro k h hk
      by_cases hk2 : k < s.size
      · obtain ⟨r, d, hD, hd, _⟩ := decode_some s k hk2
        have h1 := piece k hk2
        rw [hD] at h1
        have h2 := (rune_tail s k hk2 hD).1
        rw [bq_step s k hk2 hD hd, List.length_append]
        have h3 := ih (k + d) (by omega) h2
        dsimp only at h1
        omega
      · rw [bq_end s k (by omega)]; simp
  have := all s.size 0 (by omega) (by omega)
  simp [quoteP]
  omega
end Go.Proofs.YtimmfcbpdnlfjaaDoor
