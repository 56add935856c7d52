/- Contract of the reference's join. -/
import Derived.Test.YtimmfcbpdnlfjaaDoorStpG
namespace Go.Proofs.YtimmfcbpdnlfjaaDoor
open Go.RowKit Go.Sort
set_option linter.unusedVariables false

def joinF (L : List (List UInt8)) : List UInt8 := L.flatMap fun x => 32 :: x
/-- The words with a blank between. -/
def joinW (L : List (List UInt8)) : List UInt8 := (joinF L).drop 1
theorem joinF_snoc (L : List (List UInt8)) (x : List UInt8) : joinF (L ++ [x]) = joinF L ++ 32 :: x := by simp [joinF]
theorem joinF_ne {L : List (List UInt8)} (h : L ≠ []) : 1 ≤ (joinF L).length := by
  cases L with
  | nil => exact absurd rfl h
  | cons a t => simp [joinF]
theorem joinW_snoc {L : List (List UInt8)} (h : L ≠ []) (x : List UInt8) : joinW (L ++ [x]) = joinW L ++ 32 :: x := by
  unfold joinW
  rw [joinF_snoc, List.drop_append_of_le_length (joinF_ne h)]
theorem joinW_one (x : List UInt8) : joinW [x] = x := by simp [joinW, joinF]
theorem joinF_take (L : List (List UInt8)) (k : Nat) : (joinF (L.take k)).length ≤ (joinF L).length := by
  conv => rhs; rw [← List.take_append_drop k L]
  unfold joinF
  rw [List.flatMap_append, List.length_append]
  omega
set_option maxRecDepth 100000 in
set_option maxHeartbeats 2000000 in
theorem ref40_join (A : Option Addr) (n c : Nat) (L : List (List UInt8)) (w : World) (h : Reads w w.heap.size 1 A n (L.map sv)) (hz : (joinF L).length ≤ 1000000) (hn : n ≤ 1000000) :
    Calls Tryd.prog 23 #[.slice A n c] w fun e w' => e = .returned (.string ⟨(joinW L).toArray⟩) ∧ w = w' := by
  have e1 : L.length = n := by have := h.1; simp at this; omega
  have E1 := Lib.hid e1
  have R1 := Lib.hid h
  clear e1 h
  go_enter Tryd.func23, Tryd.ntmps23
  go_wp2_with fail
  go_loopw [3, 4] (fun v3 v4 wr => ∃ (k : Nat) (x : ByteArray), v3 = .string x ∧ v4 = .int .i64 k ∧ k ≤ n ∧ wr = w ∧ bl x = joinW (L.take k)) (fun _ v4 _ => n - (RowKit.intOf v4).toNat)
  case atStart => exact ⟨0, _, rfl, rfl, Nat.zero_le _, rfl, rfl⟩
  case round =>
    obtain ⟨k, x, rfl, rfl, hk, rfl, hx⟩ := hrel
    have hxs : x.size ≤ 1000000 := by
      have h1 := joinF_take L k
      have h2 : x.size = (bl x).length := (bl_length x).symm
      rw [h2, hx]
      unfold joinW
      rw [List.length_drop]
      omega
    by_cases hlt : k < n
    · obtain ⟨b, off, rfl, _, hc⟩ := Reads.form R1.out (by omega)
      have hk1 : k < L.length := by have := E1.out; omega
      have q1 := hc k (sv L[k]) (by simp [hk1])
      clear hc
      have htk : L.take (k + 1) = L.take k ++ [L[k]] := List.take_succ_eq_append_getElem hk1
      have hxs2 := joinF_take L (k + 1)
      rw [htk, joinF_snoc] at hxs2
      rw [List.length_append, List.length_cons] at hxs2
      obtain ⟨y, hy⟩ : ∃ y : ByteArray, (⟨L[k].toArray⟩ : ByteArray) = y := ⟨_, rfl⟩
      have hyb : bl y = L[k] := by rw [← hy]; rfl
      have hys : y.size ≤ 1000000 := by
        have h2 : y.size = (bl y).length := (bl_length y).symm
        rw [h2, hyb]
        omega
      unfold sv at q1
      rw [hy] at q1
      by_cases h0 : k = 0
      · subst h0
        have hx0 : x = ⟨#[]⟩ := by
          have : bl x = [] := by rw [hx]; rfl
          rw [show x = ⟨(bl x).toArray⟩ from rfl, this]
        have F : Hid (bl (x ++ y) = joinW (L.take (0 + 1))) := Lib.hid (by
          rw [bl_append, hx, hyb, htk]
          show [] ++ L[0] = joinW ([] ++ [L[0]])
          rw [List.nil_append, List.nil_append, joinW_one])
        rw [Nat.add_zero] at q1
        clear hx hx0 hy hyb htk hxs2
        go_wp2_with fail
        go_roundw
        case rel => exact ⟨1, _, rfl, by go_num, by omega, by simp, F.out⟩
        case measure => simp [RowKit.intOf]; omega
      · have hd : decide ((k : Int) > 0) = true := by simp; omega
        have F : Hid (bl (x ++ ⟨#[32]⟩ ++ y) = joinW (L.take (k + 1))) := Lib.hid (by
          rw [bl_append, bl_append, hx, hyb, htk, joinW_snoc (by intro e; rcases List.take_eq_nil_iff.1 e with e | e; exact h0 e; rw [e] at hk1; exact absurd hk1 (by simp))]
          show (_ ++ [32]) ++ _ = _
          rw [List.append_assoc]
          rfl)
        clear hx hy hyb htk hxs2
        go_wp2_with fail
        go_roundw
        case rel => exact ⟨k + 1, _, rfl, by go_num, by omega, by simp, F.out⟩
        case measure => simp [RowKit.intOf]; omega
    · have hke : k = n := by omega
      have F : Hid (x = ⟨(joinW L).toArray⟩) := Lib.hid (by
        have h1 : L.take k = L := List.take_of_length_le (by have := E1.out; omega)
        rw [h1] at hx
        rw [← hx]
        rfl)
      clear hx
      go_wp2_with fail
      go_ret
      exact ⟨by rw [← F.out]; rfl, rfl⟩
end Go.Proofs.YtimmfcbpdnlfjaaDoor
