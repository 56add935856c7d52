/- The cells of a row of steps. Nothing is assumed. -/
import Derived.Test.YtimmfcbpdnlfjaaDoorStpK
import Derived.Test.YtimmfcbpdnlfjaaDoorStpQ
import Derived.Test.YtimmfcbpdnlfjaaDoorRows1
namespace Go.Proofs.YtimmfcbpdnlfjaaDoor
open Go.RowKit Go.Sort

/-- The texts of a step are not too long. -/
def StpW (s : Stp) : Prop := s.key.size ≤ maxLen ∧ s.en.size ≤ maxLen ∧ s.val.size ≤ maxLen
def stpL (s : Stp) : List Value := (stpC s).toList
theorem stpL_length (s : Stp) : (stpL s).length = 9 := rfl
/-- The cells of a step that lies in a row. -/
theorem flat9_get : ∀ (L : List Stp) (k i : Nat) (hk : k < L.length), i < 9 → (L.flatMap stpL)[k * 9 + i]? = (stpC L[k])[i]?
  | s :: L, 0, i, _, hi => by
    rw [List.flatMap_cons, Nat.zero_mul, Nat.zero_add, List.getElem?_append_left (by rw [stpL_length]; exact hi)]
    show (stpC s).toList[i]? = _
    rw [Array.getElem?_toList]
    rfl
  | s :: L, k + 1, i, hk, hi => by
    rw [List.flatMap_cons, List.getElem?_append_right (by rw [stpL_length]; omega), stpL_length, show (k + 1) * 9 + i - 9 = k * 9 + i by omega]
    rw [flat9_get L k i (by simpa using hk) hi]
    rfl
theorem flat9_length (L : List Stp) : (L.flatMap stpL).length = L.length * 9 := by
  induction L with
  | nil => rfl
  | cons s L ih => rw [List.flatMap_cons, List.length_append, stpL_length, ih, List.length_cons]; omega
theorem steps_n {w : World} {B n : Nat} {A : Option Addr} {L : List Stp} (h : Reads w B 9 A n (L.flatMap stpL)) : L.length = n := by
  have := h.1
  rw [flat9_length] at this
  omega
/-- The place of a row of steps, and the cells of each. -/
theorem steps_at {w : World} {B n : Nat} {A : Option Addr} {L : List Stp} (h : Reads w B 9 A n (L.flatMap stpL)) (hn : 0 < n) : ∃ b off, A = some ⟨b, off, none⟩ ∧ b < B ∧ ∀ (k : Nat) (hk : k < L.length) (i : Nat), i < 9 → w.cell? ⟨b, off + k * 9 + i, none⟩ = (stpC L[k])[i]? := by
  obtain ⟨ad, e, hb, hc⟩ := h.2 hn
  have hl : 0 < (L.flatMap stpL).length := by have := h.1; omega
  have h0 := hc 0 _ (List.getElem?_eq_getElem hl)
  obtain ⟨b, off, spot⟩ := ad
  have hs : spot = none := by simpa [Addr.add] using World.cell?_spot h0
  subst hs
  refine ⟨b, off, e, hb, fun k hk i hi => ?_⟩
  have hi9 : i < (stpC L[k]).size := hi
  have := hc (k * 9 + i) ((stpC L[k])[i]) (by rw [flat9_get L k i hk hi, Array.getElem?_eq_getElem hi9])
  rw [Array.getElem?_eq_getElem hi9, ← this]
  obtain ⟨q, hq⟩ : ∃ q, k * 9 + i = q := ⟨_, rfl⟩
  rw [Nat.add_assoc, hq]
  by_cases h0 : q = 0
  · subst h0
    simp [Addr.add]
  · simp [Addr.add, h0]
end Go.Proofs.YtimmfcbpdnlfjaaDoor
