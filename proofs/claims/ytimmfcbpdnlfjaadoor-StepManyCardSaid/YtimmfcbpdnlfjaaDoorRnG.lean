/- The lines of a text: contracts of runes.Lines and of the reference's. -/
import Derived.Test.YtimmfcbpdnlfjaaDoorRnD
namespace Go.Proofs.YtimmfcbpdnlfjaaDoor
open Go.RowKit Go.Sort Go.Lib

/-- The lines, a being what is there of the first one. -/
def lin : List UInt8 → List UInt8 → List (List UInt8)
  | [], [] => []
  | a, [] => [a]
  | a, c :: r => if c = 10 then a :: lin [] r else lin (a ++ [c]) r
theorem lin_cons (a : List UInt8) (c : UInt8) (r : List UInt8) : lin a (c :: r) = if c = 10 then a :: lin [] r else lin (a ++ [c]) r := by
  cases a <;> rfl
theorem lin_end (a : List UInt8) (h : a ≠ []) : lin a [] = [a] := by
  cases a with
  | nil => exact absurd rfl h
  | cons _ _ => rfl
theorem lin_skip : ∀ (m : Nat) (a l : List UInt8), m ≤ l.length → (∀ j (_ : j < m) (h2 : j < l.length), l[j] ≠ 10) → lin a l = lin (a ++ l.take m) (l.drop m)
  | 0, a, l, _, _ => by simp
  | m + 1, a, [], h, _ => by simp at h
  | m + 1, a, c :: r, hl, h => by
    have h0 := h 0 (by omega) (by simp)
    rw [lin_cons, if_neg (by simpa using h0), lin_skip m (a ++ [c]) r (by simpa using hl) (fun j hj h2 => by
      have := h (j + 1) (by omega) (by simpa using h2)
      simpa using this)]
    simp
theorem lin_rune (s : ByteArray) (a : List UInt8) (k : Nat) (hk : k < s.size) {r d : Nat} (hD : Utf8.decode s k = (r, d)) (h10 : s[k] ≠ 10) : lin a ((bl s).drop k) = lin (a ++ ((bl s).drop k).take d) ((bl s).drop (k + d)) := by
  obtain ⟨h1, h2⟩ := rune_tail s k hk hD
  have hl := bl_length s
  rw [lin_skip d a ((bl s).drop k) (by rw [List.length_drop]; omega) (fun j hj h3 => by
    rw [List.getElem_drop, bl_get s _ (by omega)]
    by_cases h : j = 0
    · subst h; exact h10
    · have := h2 (k + j) (by omega) (by omega) (by omega)
      intro e
      rw [e] at this
      simp at this)]
  rw [List.drop_drop]
theorem take_drop_more (l : List UInt8) (f k d : Nat) (h : f ≤ k) : (l.take k).drop f ++ (l.drop k).take d = (l.take (k + d)).drop f := by
  rw [List.take_add, List.drop_append]
  have : f - (l.take k).length = 0 ∨ (l.drop k) = [] := by
    rw [List.length_take]
    rcases Nat.lt_or_ge l.length k with h1 | h1
    · exact .inr (List.drop_of_length_le (by omega))
    · exact .inl (by omega)
  rcases this with h1 | h1
  · rw [h1, List.drop_zero]
  · rw [h1]
    simp
def linesP (l : List UInt8) : List (List UInt8) := lin [] l

set_option maxRecDepth 100000 in
set_option maxHeartbeats 2000000 in
theorem runes_Lines (s : ByteArray) (hs : s.size ≤ 1000000000) (w : World) : Calls Tryd.prog 32 #[.string s] w (FreshS w (linesP (bl s))) := by
  obtain ⟨L, hL⟩ : ∃ L, linesP (bl s) = L := ⟨_, rfl⟩
  have HL := Lib.hid hL
  rw [hL]
  clear hL
  go_enter Tryd.func32, Tryd.ntmps32
  go_wp2_with fail
  go_loopw [3, 4, 5, 6] (fun v3 v4 _ _ wr => ∃ (k f : Nat) (S : List (List UInt8)), v4 = .int .i64 f ∧ f ≤ k ∧ k ≤ s.size ∧ It wr w.heap.size s k ∧ w.heap.size < wr.heap.size ∧ Below w.heap.size w wr ∧ OwnS wr (w.heap.size + 1) v3 S ∧ S.length ≤ k ∧ S ++ lin (((bl s).take k).drop f) ((bl s).drop k) = L) (fun _ _ _ _ wr => s.size - wr.iterPos w.heap.size)
  case atStart => exact ⟨0, 0, [], rfl, by omega, by omega, It.new _ _ _, (It.new _ _ _).lt, below_iter (Below.refl _ _) (Nat.le_refl _) _ _, OwnS.nil_ _ _, by simp, by rw [← HL.out]; rfl⟩
  case round =>
    obtain ⟨k, f, S, rfl, hfk, hks, BI, hlt, hB, hO, hSk, hI⟩ := hrel
    have hpos := BI.pos
    have HPOS := Lib.hid hpos
    have HI := Lib.hid hI
    clear hI hpos
    by_cases hk : k < s.size
    · obtain ⟨r, d, hD, hd1, hr, hcase⟩ := decode_some s k hk
      have hnx : ∀ ty, (Instr.next (.pointer (some ⟨w.heap.size, 0, none⟩)) true ty).run Tryd.prog wr = .ok (.tuple #[.bool true, .int .i64 k, .int .i32 r]) (wr.iterAt w.heap.size s (k + d)) := by
        intro ty
        rw [Lib.run_next_any_at wr _ s k ty BI hk, hD]
      have BI2 := BI.at_ (k + d)
      have hB2 := Lib.below_iterAt hB (k := w.heap.size) (Nat.le_refl _) s (k + d)
      have hlt2 := BI2.lt
      have hkd := (rune_tail s k hk hD).1
      have HO2 := Lib.hid (show OwnS (wr.iterAt w.heap.size s (k + d)) (w.heap.size + 1) _ S from own_iterAt hO BI (k + d))
      have h10 := u8_eq_iff s[k] 10 (by omega)
      have H10 := Lib.hid h10
      have HD := Lib.hid hD
      have HCA := Lib.hid hcase
      have HBD := Lib.hid (bl_drop s k hk)
      clear hD BI hB hlt hcase hO h10
      generalize wr.iterAt w.heap.size s (k + d) = w2 at *
      by_cases hr10 : r = 10
      · subst hr10
        have hsk : s[k].toNat = 10 ∧ d = 1 := by have := HCA.out; omega
        obtain ⟨hsk, rfl⟩ := hsk
        have HX : Hid (S ++ [bl (s.extract f k)] ++ lin (((bl s).take (k + 1)).drop (k + 1)) ((bl s).drop (k + 1)) = L) := Lib.hid (by
          rw [← HI.out, HBD.out, lin_cons, if_pos (show s[k] = 10 from H10.out.2 hsk), bl_extract]
          rw [List.drop_of_length_le (i := k + 1) (by rw [List.length_take]; omega)]
          simp)
        clear hsk
        go_wp2_with (at_builtin; go_must (refine append_str w2 (bl (s.extract f k)) _ (by rw [sv_bl]) _ rfl _ _ rfl (w.heap.size + 1) _ S rfl HO2.out rfl (by omega) hlt2 ?_); intro v3 w3 o3 g3 _)
        go_roundw
        case rel => exact ⟨k + 1, k + 1, S ++ [bl (s.extract f k)], by go_num, by omega, by omega, BI2.grown g3 (fun e => by have := (HO2.out.lt _ e.symm).1; omega), Nat.lt_of_lt_of_le hlt2 g3.size, Below.grown hB2 g3 hB2.size (fun q hq => by have := (HO2.out.lt q hq).1; omega), o3, by rw [List.length_append, List.length_singleton]; omega, HX.out⟩
        case measure =>
          have := (BI2.grown g3 (fun e => by have := (HO2.out.lt _ e.symm).1; omega)).pos
          rw [this, HPOS.out]
          omega
      · have hne : ((r : Int) == 10) = false := by simp; omega
        have HX : Hid (S ++ lin (((bl s).take (k + d)).drop f) ((bl s).drop (k + d)) = L) := Lib.hid (by
          rw [← HI.out, lin_rune s _ k hk HD.out (fun h => hr10 (by have := HCA.out; have := H10.out.1 h; omega)), take_drop_more _ _ _ _ hfk])
        go_wp2_with fail
        go_roundw
        case rel => exact ⟨k + d, f, S, rfl, by omega, by omega, BI2, hlt2, hB2, HO2.out, by omega, HX.out⟩
        case measure => rw [BI2.pos, HPOS.out]; omega
    · have hnx : ∀ ty, (Instr.next (.pointer (some ⟨w.heap.size, 0, none⟩)) true ty).run Tryd.prog wr = .ok (.tuple #[.bool false]) wr := fun ty => Lib.run_next_end_at wr _ s k ty BI hk
      have hkk : k = s.size := by omega
      have HKK := Lib.hid hkk
      have HO := Lib.hid hO
      have hI2 : S ++ lin ((bl s).drop f) [] = L := by
        rw [← HI.out, hkk]
        rw [List.take_of_length_le (by rw [bl_length]; exact Nat.le_refl _), List.drop_of_length_le (i := s.size) (by rw [bl_length]; exact Nat.le_refl _)]
      have HI2 := Lib.hid hI2
      clear hI2 hO hkk
      by_cases hf : f < s.size
      · have hdf : decide ((f : Int) < (s.size : Int)) = true := by simp; omega
        have HX : Hid (S ++ [bl (s.extract f s.size)] = L) := Lib.hid (by
          rw [← HI2.out, bl_tail, lin_end]
          intro e
          have := congrArg List.length e
          rw [List.length_drop, bl_length] at this
          simp at this
          omega)
        go_wp2_with (at_builtin; go_must (refine append_str wr (bl (s.extract f s.size)) _ (by rw [sv_bl]) _ rfl _ _ rfl (w.heap.size + 1) _ S rfl HO.out rfl (by omega) hlt ?_); intro v3 w3 o3 g3 _)
        go_ret
        refine ⟨_, rfl, ?_, Below.grown hB g3 hB.size (fun q hq => by have := (HO.out.lt q hq).1; omega)⟩
        rw [← HX.out]
        exact own_base o3 (by omega)
      · have hdf : decide ((f : Int) < (s.size : Int)) = false := by simp; omega
        have HX : Hid (S = L) := Lib.hid (by
          rw [← HI2.out, List.drop_of_length_le (by rw [bl_length]; omega)]
          simp [lin])
        go_wp2_with fail
        go_ret
        refine ⟨_, rfl, ?_, hB⟩
        rw [← HX.out]
        exact own_base HO.out (by omega)
end Go.Proofs.YtimmfcbpdnlfjaaDoor
