/- Plain: the runes of a part of a text; how many there are; where the first so many end. No program is named here. Contracts of runes.Val and of the reference's Bad, letter, Key and Val. -/
import Derived.Test.YtimmfcbpdnlfjaaDoorRnB
import Derived.Test.YtimmfcbpdnlfjaaDoorRnD
import Derived.Test.YtimmfcbpdnlfjaaDoorStrOf
import Derived.Lib.ValidLaws
namespace Go.Proofs.YtimmfcbpdnlfjaaDoor
open Go.Lib

set_option maxRecDepth 100000 in
set_option maxHeartbeats 4000000 in
theorem decodeN_pre (n n' b0 b1 b2 b3 c1 c2 c3 : Nat) (hd : (decodeN n b0 b1 b2 b3).2 ≤ n') (hnn : n' ≤ n) (e1 : 1 < n' → c1 = b1) (e2 : 2 < n' → c2 = b2) (e3 : 3 < n' → c3 = b3) : decodeN n' b0 c1 c2 c3 = decodeN n b0 b1 b2 b3 := by
  rcases (show n' = 0 ∨ n' = 1 ∨ n' = 2 ∨ n' = 3 ∨ 4 ≤ n' by omega) with h | h | h | h | h
  · subst h
    have := decodeN_ge1 n b0 b1 b2 b3
    omega
  · subst h
    clear e1 e2 e3
    unfold decodeN at hd ⊢
    repeat' split at hd
    all_goals (simp only [] at hd ⊢)
    all_goals (repeat' split)
    all_goals first | (exfalso; omega) | rfl
  · subst h
    have h1 := e1 (by omega)
    subst h1
    clear e1 e2 e3
    unfold decodeN at hd ⊢
    repeat' split at hd
    all_goals (simp only [] at hd ⊢)
    all_goals (repeat' split)
    all_goals first | (exfalso; omega) | rfl
  · subst h
    have h1 := e1 (by omega)
    have h2 := e2 (by omega)
    subst h1 h2
    clear e1 e2 e3
    unfold decodeN at hd ⊢
    repeat' split at hd
    all_goals (simp only [] at hd ⊢)
    all_goals (repeat' split)
    all_goals first | (exfalso; omega) | rfl
  · have h1 := e1 (by omega)
    have h2 := e2 (by omega)
    have h3 := e3 (by omega)
    subst h1 h2 h3
    unfold decodeN
    have a1 : (1 < n') = (1 < n) := propext ⟨fun _ => by omega, fun _ => by omega⟩
    have a2 : (2 < n') = (2 < n) := propext ⟨fun _ => by omega, fun _ => by omega⟩
    have a3 : (3 < n') = (3 < n) := propext ⟨fun _ => by omega, fun _ => by omega⟩
    simp only [a1, a2, a3]
theorem get!_pre (s : ByteArray) (p k : Nat) (h : k < p) (hp : p ≤ s.size) : (s.extract 0 p).get! k = s.get! k := by
  have hs : (s.extract 0 p).size = p := by rw [ByteArray.size_extract]; omega
  rw [get!_eq _ k (by omega), get!_eq s k (by omega), ByteArray.getElem_extract]
  simp
/-- The rune at a place that ends within the part ahead of p. -/
theorem decode_pre (s : ByteArray) (p k : Nat) (hp : p ≤ s.size) (hk : k < p) (hd : k + (Utf8.decode s k).2 ≤ p) : Utf8.decode (s.extract 0 p) k = Utf8.decode s k := by
  have hs : (s.extract 0 p).size = p := by rw [ByteArray.size_extract]; omega
  rw [decode_at (s.extract 0 p) k, decode_at s k, hs, get!_pre s p k hk hp]
  rw [decode_at s k] at hd
  exact decodeN_pre _ _ _ _ _ _ _ _ _ (by omega) (by omega) (fun h => by rw [get!_pre s p _ (by omega) hp]) (fun h => by rw [get!_pre s p _ (by omega) hp]) (fun h => by rw [get!_pre s p _ (by omega) hp])

/-- Where the first n runes from the place k on end. -/
def cutP (s : ByteArray) : Nat → Nat → Nat
  | 0, k => k
  | n + 1, k => if k < s.size then cutP s n (k + (Utf8.decode s k).2) else k
theorem cutP_step (s : ByteArray) (n k : Nat) (hk : k < s.size) {r d : Nat} (hD : Utf8.decode s k = (r, d)) : cutP s (n + 1) k = cutP s n (k + d) := by
  rw [cutP, if_pos hk, hD]
theorem cutP_end (s : ByteArray) (n k : Nat) (hk : s.size ≤ k) : cutP s n k = k := by
  cases n with
  | zero => rfl
  | succ n => rw [cutP, if_neg (by omega)]
theorem cutP_le (s : ByteArray) : ∀ (n k : Nat), k ≤ s.size → k ≤ cutP s n k ∧ cutP s n k ≤ s.size
  | 0, k, h => ⟨Nat.le_refl _, h⟩
  | n + 1, k, h => by
    by_cases hk : k < s.size
    · obtain ⟨r, d, hD, _⟩ := decode_some s k hk
      rw [cutP_step s n k hk hD]
      have := cutP_le s n (k + d) (rune_tail s k hk hD).1
      omega
    · rw [cutP_end s _ k (by omega)]
      exact ⟨Nat.le_refl _, h⟩
/-- The runes of the part that the first n runes are, and of the rest, are together all. -/
theorem prs_cut (s : ByteArray) : ∀ (n k : Nat), k ≤ s.size → (prs (s.extract 0 (cutP s n k)) k).length + (prs s (cutP s n k)).length = (prs s k).length
  | 0, k, h => by
    have hs : (s.extract 0 k).size = k := by rw [ByteArray.size_extract]; omega
    rw [cutP, prs_end _ k (by omega)]
    simp
  | n + 1, k, h => by
    by_cases hk : k < s.size
    · obtain ⟨r, d, hD, hd1, _⟩ := decode_some s k hk
      have ht := (rune_tail s k hk hD).1
      obtain ⟨h1, h2⟩ := cutP_le s n (k + d) ht
      rw [cutP_step s n k hk hD]
      have hs : (s.extract 0 (cutP s n (k + d))).size = cutP s n (k + d) := by rw [ByteArray.size_extract]; omega
      have hD2 : Utf8.decode (s.extract 0 (cutP s n (k + d))) k = (r, d) := by rw [decode_pre s _ k h2 (by omega) (by rw [hD]; omega), hD]
      rw [prs_cons _ k (by omega) hD2 hd1, prs_cons s k hk hD hd1]
      have := prs_cut s n (k + d) ht
      simp only [List.length_cons]
      omega
    · have hs : (s.extract 0 k).size = k := by rw [ByteArray.size_extract]; omega
      rw [cutP_end s _ k (by omega), prs_end (s.extract 0 k) k (by omega)]
      simp
theorem pns_tail (s : ByteArray) (p : Nat) : ∀ (f k : Nat), pns (s.extract p s.size) f k = pns s f (p + k)
  | 0, k => rfl
  | f + 1, k => by
    have hs : (s.extract p s.size).size = s.size - p := by rw [ByteArray.size_extract]; omega
    rw [pns, pns, Lib.tail_decode s p k, hs]
    by_cases h : p + k < s.size
    · rw [if_pos (by omega), if_pos h, pns_tail s p f, Nat.add_assoc]
    · rw [if_neg (by omega), if_neg h]
theorem prs_tail (s : ByteArray) (p : Nat) : prs (s.extract p s.size) 0 = prs s p := by
  have hs : (s.extract p s.size).size = s.size - p := by rw [ByteArray.size_extract]; omega
  unfold prs
  rw [hs, pns_tail, Nat.add_zero, Nat.sub_zero]
theorem rns_pns (s : ByteArray) : ∀ (f k : Nat), rns s f k = (pns s f k).map (·.1)
  | 0, k => rfl
  | f + 1, k => by
    rw [rns, pns]
    split
    · rw [rns_pns s f]
      rfl
    · rfl
theorem rest_prs (s : ByteArray) (k : Nat) : rest s k = (prs s k).map (·.1) := rns_pns s _ k
theorem prs_len (s : ByteArray) (k : Nat) : (prs s k).length ≤ s.size - k := by
  have := rest_length s k
  rwa [rest_prs, List.length_map] at this
end Go.Proofs.YtimmfcbpdnlfjaaDoor

namespace Go.Proofs.YtimmfcbpdnlfjaaDoor
open Go.RowKit Go.Sort Go.Lib

/-- Does a text have no byte that begins no rune? -/
def allRunes (s : ByteArray) : Bool := (prs s 0).all fun p => !badD p.1 p.2
theorem valid_prs (s : ByteArray) : ∀ (m k : Nat), s.size - k ≤ m → validD ((bl s).drop k) = (prs s k).all fun p => !badD p.1 p.2
  | 0, k, h => by
    rw [List.drop_of_length_le (by rw [bl_length]; omega), prs_end s k (by omega), validD_nil]
    rfl
  | m + 1, k, h => by
    by_cases hk : k < s.size
    · obtain ⟨r, d, hD, hd, _⟩ := decode_some s k hk
      have hdl : decodeL ((bl s).drop k) = (r, d) := by
        have := decodeL_drop s k
        rw [hD] at this
        exact this
      rw [validD_step _ (by rw [bl_drop s k hk]; simp), hdl, prs_cons s k hk hD hd, List.all_cons, List.drop_drop, valid_prs s m (k + d) (by omega)]
      dsimp only
      by_cases hb : r = 65533 ∧ d = 1
      · rw [if_pos hb]
        have : badD r d = true := by unfold badD; simp; omega
        rw [this]
        rfl
      · rw [if_neg hb]
        have : badD r d = false := by unfold badD; simp; omega
        rw [this]
        rfl
    · rw [List.drop_of_length_le (by rw [bl_length]; omega), prs_end s k (by omega), validD_nil]
      rfl
theorem valid_all (s : ByteArray) : validD s.data.toList = allRunes s := by
  have := valid_prs s s.size 0 (by omega)
  rw [List.drop_zero] at this
  exact this

theorem goodK_false : ∀ L : List (Nat × Nat), goodK L false = (L.all (fun p => !badD p.1 p.2) && L.all (fun p => partB p.1 false))
  | [] => rfl
  | (r, d) :: t => by
    rw [goodK, goodK_false t, List.all_cons, List.all_cons]
    cases badD r d <;> cases partB r false <;> simp
theorem partB_letter (r : Nat) (h : letterB r = true) : partB r false = true := by unfold partB; rw [h]; rfl
theorem goodK_true (r d : Nat) (t : List (Nat × Nat)) : goodK ((r, d) :: t) true = (((r, d) :: t).all (fun p => !badD p.1 p.2) && letterB r && ((r, d) :: t).all (fun p => partB p.1 false)) := by
  rw [goodK, goodK_false t, List.all_cons, List.all_cons]
  have h1 : partB r true = letterB r := by unfold partB; simp
  rw [h1]
  cases h : letterB r
  · simp
  · have := partB_letter r h
    dsimp only
    rw [this]
    cases badD r d <;> simp

/-- May a text be a value? -/
def valB (s : ByteArray) : Bool := decide (s.size ≤ 64) && allRunes s
end Go.Proofs.YtimmfcbpdnlfjaaDoor
