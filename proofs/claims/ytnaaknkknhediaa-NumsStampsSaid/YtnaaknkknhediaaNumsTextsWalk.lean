/- The walk of the law NumsTexts: it returns true, and nothing that was there ahead of the call has turned. The text is at most 2^63 - 1 bytes long, as every text is. -/
import Derived.Test.YtnaaknkknhediaaNumsE
namespace Go.Proofs.Ytnaaknkknhediaa
open Go.RowKit

theorem rdNum_some {l : List UInt8} {n : Nat} (h : rd l = some n) : rdNum l = n := by simp [rdNum, h]
theorem rdErr_some {l : List UInt8} {n : Nat} (h : rd l = some n) : rdErr l = 0 := by simp [rdErr, h]
theorem rdNum_none {l : List UInt8} (h : rd l = none) : rdNum l = 0 := by simp [rdNum, h]
theorem rdErr_none {l : List UInt8} (h : rd l = none) : rdErr l = 20 := by simp [rdErr, h]

theorem read_dec (n : Int) (w : World) :
    Calls Try.prog 18 #[.string ⟨(dec (cut50 n).toNat).toArray⟩] w fun e w' => e = .returned (.tuple #[.int .i64 (cut50 n), .int .i64 0]) ∧ Below w.heap.size w w' := by
  have hr := cut50_range n
  have hl := dec_length (cut50 n).toNat (by omega)
  refine (nums_Read ⟨(dec (cut50 n).toNat).toArray⟩ w (by simp [ByteArray.size]; omega)).mono fun e w' ⟨he, hb⟩ => ⟨?_, hb⟩
  have h := rd_dec (cut50 n).toNat (by omega)
  rw [he]
  simp only []
  rw [rdNum_some h, rdErr_some h, Int.toNat_of_nonneg hr.1]

set_option maxRecDepth 100000 in
set_option maxHeartbeats 1000000 in
theorem nums_texts_walk (w : World) (n : Int) (_ : (Lit.int .i64 n).wf = true) (s : ByteArray) (hs : s.size ≤ maxLen) :
    Calls Try.prog 4 #[.int .i64 n, .string s] w fun e w' => e = .returned (.bool true) ∧ Below w.heap.size w w' := by
  unfold maxLen at hs
  have hs' : s.size ≤ 9223372036854775807 := by omega
  by_cases hlong : 1000 < s.size
  · go_enter Try.func4, Try.ntmps4
    go_wp2
    go_ret
    exact ⟨rfl, Below.refl _ _⟩
  · cases hr : rd s.data.toList with
    | none =>
      have H1 := Lib.hid (rdNum_none hr)
      have H2 := Lib.hid (rdErr_none hr)
      have H3 := Lib.hid hr
      clear hr
      have hB := Below.refl w.heap.size w
      go_enter Try.func4, Try.ntmps4
      go_wp2_with (first
        | (go_at_call 18; ((with_reducible refine (nums_Read s _ hs').mono ?_); rintro e w1 ⟨rfl, hb1⟩; replace hB := bthen hB hb1; clear hb1; rw [H1.out, H2.out]))
        | (go_at_call 18; ((with_reducible refine (read_dec n _).mono ?_); rintro e w1 ⟨rfl, hb3⟩; replace hB := bthen hB hb3; clear hb3))
        | (go_at_call 19; refine (ref02_Read s _ hs').mono ?_; rintro e w' ⟨rfl, m, rfl, hm⟩; rw [H3.out]; clear hm)
        | (go_at_call 20; refine (nums_Text n _).mono ?_; rintro e w1 ⟨rfl, hb2⟩; replace hB := bthen hB hb2; clear hb2)
        | (go_at_call 21; refine (ref02_Text n _).mono ?_; rintro e w' ⟨rfl, rfl⟩)
        | (go_at_call 16; refine (ref02_Cut n _).mono ?_; rintro e w' ⟨rfl, rfl⟩)
        | (go_at_call 17; refine (alive02 _).mono ?_; rintro e w1 ⟨rfl, hb4⟩; replace hB := bthen hB hb4; clear hb4))
      go_ret
      exact ⟨rfl, hB⟩
    | some k =>
      have H1 := Lib.hid (rdNum_some hr)
      have H2 := Lib.hid (rdErr_some hr)
      have H3 := Lib.hid hr
      clear hr
      have hB := Below.refl w.heap.size w
      go_enter Try.func4, Try.ntmps4
      go_wp2_with (first
        | (go_at_call 18; ((with_reducible refine (nums_Read s _ hs').mono ?_); rintro e w1 ⟨rfl, hb1⟩; replace hB := bthen hB hb1; clear hb1; rw [H1.out, H2.out]))
        | (go_at_call 18; ((with_reducible refine (read_dec n _).mono ?_); rintro e w1 ⟨rfl, hb3⟩; replace hB := bthen hB hb3; clear hb3))
        | (go_at_call 19; refine (ref02_Read s _ hs').mono ?_; rintro e w' ⟨rfl, m, rfl, hm⟩; rw [H3.out]; obtain rfl := hm _ H3.out; clear hm)
        | (go_at_call 20; refine (nums_Text n _).mono ?_; rintro e w1 ⟨rfl, hb2⟩; replace hB := bthen hB hb2; clear hb2)
        | (go_at_call 21; refine (ref02_Text n _).mono ?_; rintro e w' ⟨rfl, rfl⟩)
        | (go_at_call 16; refine (ref02_Cut n _).mono ?_; rintro e w' ⟨rfl, rfl⟩)
        | (go_at_call 17; refine (alive02 _).mono ?_; rintro e w1 ⟨rfl, hb4⟩; replace hB := bthen hB hb4; clear hb4))
      go_ret
      exact ⟨rfl, hB⟩
end Go.Proofs.Ytnaaknkknhediaa
