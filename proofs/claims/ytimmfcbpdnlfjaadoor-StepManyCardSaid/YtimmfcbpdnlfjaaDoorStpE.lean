/- Contracts of step.number and of the reference's name. -/
import Derived.Test.YtimmfcbpdnlfjaaDoorStpD
namespace Go.Proofs.YtimmfcbpdnlfjaaDoor
open Go.RowKit Go.Sort
set_option linter.unusedVariables false

/-- The place of a word in a row of words, counted from 1; 0: none. -/
def posN (N : List (List UInt8)) (x : List UInt8) : Nat := if x ∈ N then N.idxOf x + 1 else 0
theorem posN_hit {N : List (List UInt8)} {x : List UInt8} {k : Nat} (hk : k < N.length) (h : N[k] = x) (hn : x ∉ N.take k) : posN N x = k + 1 := by
  have hx : x ∈ N := by rw [← h]; exact List.getElem_mem hk
  have hs : N = N.take k ++ (x :: N.drop (k + 1)) := by rw [← h, List.getElem_cons_drop, List.take_append_drop]
  unfold posN
  rw [if_pos hx]
  have : N.idxOf x = k := by
    rw [hs, List.idxOf_append, if_neg hn, List.idxOf_cons_self, List.length_take]
    omega
  rw [this]
theorem posN_none {N : List (List UInt8)} {x : List UInt8} (hn : x ∉ N) : posN N x = 0 := by
  unfold posN
  rw [if_neg hn]
theorem word_text (l : List UInt8) (x : ByteArray) : ((⟨l.toArray⟩ : ByteArray).toList == x.toList) = (l == bl x) := by
  rw [Go.ByteArray.toList_eq, Go.ByteArray.toList_eq]
  rfl

set_option maxRecDepth 100000 in
set_option maxHeartbeats 2000000 in
theorem step_number (g : Nat) (N : List (List UInt8)) (x : ByteArray) (w : World) (hb : NamesAt w g N) (hN : N.length ≤ 10) :
    Calls Tryd.prog 37 #[.slice (some ⟨g, 0, none⟩) N.length N.length, .string x] w fun e w' => e = .returned (.int .i64 (posN N (bl x))) ∧ w = w' := by
  obtain ⟨m, hm⟩ : ∃ m, N.length = m := ⟨_, rfl⟩
  have HM := Lib.hid hm
  have hm12 : m ≤ 12 := by omega
  rw [hm]
  clear hm
  go_enter Tryd.func37, Tryd.ntmps37
  go_wp2_with fail
  go_loopw [5, 6, 9] (fun _ _ v9 wr => ∃ k : Nat, v9 = .int .i64 k ∧ k ≤ N.length ∧ wr = w ∧ bl x ∉ N.take k) (fun _ _ v9 _ => m - (RowKit.intOf v9).toNat)
  case atStart => exact ⟨0, rfl, Nat.zero_le _, rfl, by simp⟩
  case round =>
    obtain ⟨k, rfl, hk, rfl, hn⟩ := hrel
    have HB := Lib.hid hb
    by_cases hkl : k < N.length
    · have q0 : wr.cell? ⟨g, k, none⟩ = some (.string ⟨N[k].toArray⟩) := by
        rw [Blk.cell HB.out (k)]
        simp [sv, hkl]
      have hkm : k < m := by have := HM.out; omega
      have hq := word_text N[k] x
      have htk : N.take (k + 1) = N.take k ++ [N[k]] := List.take_succ_eq_append_getElem hkl
      obtain ⟨y, hy⟩ : ∃ y : ByteArray, (⟨N[k].toArray⟩ : ByteArray) = y := ⟨_, rfl⟩
      rw [hy] at q0 hq
      by_cases hx : N[k] = bl x
      · have F := Lib.hid (posN_hit hkl hx hn)
        have hq' : (y.toList == x.toList) = true := by rw [hq]; simp [hx]
        clear hq hx htk hy hb hn
        go_wp2_with fail
        go_ret
        exact ⟨by rw [F.out]; rfl, rfl⟩
      · have hq' : (y.toList == x.toList) = false := by rw [hq]; simp [hx]
        have HN2 : Hid (bl x ∉ N.take (k + 1)) := Lib.hid (by rw [htk, List.mem_append, List.mem_singleton]; rintro (h | h); exact hn h; exact hx h.symm)
        clear hq hx htk hy hb hn
        go_wp2_with fail
        go_roundw
        case rel => exact ⟨k + 1, by go_num, hkl, by simp, HN2.out⟩
        case measure => simp [RowKit.intOf]; omega
    · have hke : k = N.length := by omega
      subst hke
      have F := Lib.hid (posN_none (N := N) (x := bl x) (by rw [List.take_length] at hn; exact hn))
      have hme : m = N.length := HM.out.symm
      subst hme
      clear hn hb
      go_wp2_with fail
      go_ret
      exact ⟨by rw [F.out]; rfl, rfl⟩

set_option maxRecDepth 100000 in
set_option maxHeartbeats 2000000 in
theorem ref40_name (g : Nat) (N : List (List UInt8)) (x : ByteArray) (w : World) (hb : NamesAt w g ([] :: N)) (hN : N.length ≤ 10) :
    Calls Tryd.prog 42 #[.slice (some ⟨g, 0, none⟩) (N.length + 1 : Nat) (N.length + 1 : Nat), .string x] w fun e w' => e = .returned (.int .i64 (posN N (bl x))) ∧ w = w' := by
  obtain ⟨m, hm⟩ : ∃ m, (N.length + 1 : Nat) = m := ⟨_, rfl⟩
  have HM := Lib.hid hm
  have hm12 : m ≤ 12 := by omega
  rw [hm]
  clear hm
  go_enter Tryd.func42, Tryd.ntmps42
  go_wp2_with fail
  go_loopw [5] (fun v5 wr => ∃ k : Nat, v5 = .int .i64 ((k + 1 : Nat) : Int) ∧ k ≤ N.length ∧ wr = w ∧ bl x ∉ N.take k) (fun v5 _ => m - (RowKit.intOf v5).toNat)
  case atStart => exact ⟨0, rfl, Nat.zero_le _, rfl, by simp⟩
  case round =>
    obtain ⟨k, rfl, hk, rfl, hn⟩ := hrel
    have HB := Lib.hid hb
    by_cases hkl : k < N.length
    · have q0 : wr.cell? ⟨g, (k + 1), none⟩ = some (.string ⟨N[k].toArray⟩) := by
        rw [Blk.cell HB.out ((k + 1))]
        simp [sv, hkl]
      have hkm : (k + 1) < m := by have := HM.out; omega
      have hq := word_text N[k] x
      have htk : N.take (k + 1) = N.take k ++ [N[k]] := List.take_succ_eq_append_getElem hkl
      obtain ⟨y, hy⟩ : ∃ y : ByteArray, (⟨N[k].toArray⟩ : ByteArray) = y := ⟨_, rfl⟩
      rw [hy] at q0 hq
      by_cases hx : N[k] = bl x
      · have F := Lib.hid (posN_hit hkl hx hn)
        have hq' : (y.toList == x.toList) = true := by rw [hq]; simp [hx]
        clear hq hx htk hy hb hn
        go_wp2_with fail
        go_ret
        exact ⟨by rw [F.out]; rfl, rfl⟩
      · have hq' : (y.toList == x.toList) = false := by rw [hq]; simp [hx]
        have HN2 : Hid (bl x ∉ N.take (k + 1)) := Lib.hid (by rw [htk, List.mem_append, List.mem_singleton]; rintro (h | h); exact hn h; exact hx h.symm)
        clear hq hx htk hy hb hn
        go_wp2_with fail
        go_roundw
        case rel => exact ⟨k + 1, by go_num, hkl, by simp, HN2.out⟩
        case measure => simp [RowKit.intOf]; omega
    · have hke : k = N.length := by omega
      subst hke
      have F := Lib.hid (posN_none (N := N) (x := bl x) (by rw [List.take_length] at hn; exact hn))
      have hme : m = N.length + 1 := HM.out.symm
      subst hme
      clear hn hb
      go_wp2_with fail
      go_ret
      exact ⟨by rw [F.out]; rfl, rfl⟩

end Go.Proofs.YtimmfcbpdnlfjaaDoor
