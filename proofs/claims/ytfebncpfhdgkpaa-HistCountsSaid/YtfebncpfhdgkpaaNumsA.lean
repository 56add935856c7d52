/- Contracts of nums.Add, nums.Text and of the references' Cut and Text: what they compute; what was there ahead of the call stands. No condition. -/
import Derived.Test.YtfebncpfhdgkpaaWords
import Derived.Test.YtfebncpfhdgkpaaPlainA
namespace Go.Proofs.Ytfebncpfhdgkpaa
open Go.RowKit

theorem nums_Add (a b : Int) (w : World) :
    Calls Try.prog 65 #[.int .i64 a, .int .i64 b] w fun e w' => e = .returned (.int .i64 (add50 a b)) ∧ w = w' := by
  go_enter Try.func65, Try.ntmps65
  go_wp2
  all_goals (go_ret; exact ⟨ret_int (by unfold add50 cut50; omega), rfl⟩)

/-- What the loop of nums.Text knows: m is left, from place p on the digits l stand. -/
def TextRel (N B : Nat) (w : World) (v0 v4 v5 : Value) (wr : World) : Prop :=
  ∃ (m p : Nat) (ok : Bool) (l : List UInt8) (arr : Array Value), v0 = .int .i64 m ∧ v4 = .int .i64 p ∧ v5 = .bool ok ∧ p + l.length = 20 ∧ Blk wr B 135 arr ∧ arr.size = 20 ∧ arr.toList.drop p = l.map vb ∧
    (ok = true → dec m ++ l = dec N ∧ m < 10 ^ (p - 4) ∧ m ≤ 1125899906842624 ∧ (0 < m ∨ p = 20)) ∧ (ok = false → l = dec N ∧ p < 20) ∧ Below B w wr

theorem text_start (N : Nat) (hN : N ≤ 1125899906842624) (w : World) :
    TextRel N w.heap.size w (.int .i64 (N : Int)) (.int .i64 20) (.bool true) (w.alloc (.cells (Array.replicate 20 (.int .u8 0)) 135)) :=
  ⟨N, 20, true, [], _, rfl, rfl, rfl, rfl, Blk.new _ _ _, rfl, rfl, fun _ => ⟨by simp, by omega, hN, .inr rfl⟩, (by intro h; cases h), (Below.refl _ _).alloc (Nat.le_refl _) _⟩

theorem drop_set_pred (arr : Array Value) (p : Nat) (u : Value) (h : 0 < p) (hs : p ≤ arr.size) : (arr.setIfInBounds (p - 1) u).toList.drop (p - 1) = u :: arr.toList.drop p := by
  have e : p - 1 + 1 = p := by omega
  rw [Array.toList_setIfInBounds, List.drop_eq_getElem_cons (by simp; omega), e, List.getElem_set_self, List.drop_set_of_lt (by omega)]

theorem text_step {N B m p : Nat} {l : List UInt8} {arr : Array Value} {w wr : World} (hd : dec m ++ l = dec N) (hm10 : m < 10 ^ (p - 4)) (hmb : m ≤ 1125899906842624) (hp5 : 5 ≤ p) (hpl : p + l.length = 20)
    (hblk : Blk wr B 135 arr) (harr : arr.size = 20) (hdrop : arr.toList.drop p = l.map vb) (hbel : Below B w wr) :
    TextRel N B w (.int .i64 ((m : Int) / 10)) (.int .i64 ((p : Int) - 1)) (.bool (decide (0 < (m : Int) / 10))) (wr.setCell ⟨B, p - 1, none⟩ (.int .u8 (48 + (m : Int) % 10))) := by
  refine ⟨m / 10, p - 1, decide (0 < (m : Int) / 10), dig m :: l, _, by go_num, by go_num, rfl, by simp; omega, hblk.set_ _ _, by simpa using harr, ?_, ?_, ?_, hbel.setCell (Nat.le_refl _) _⟩
  · rw [drop_set_pred _ _ _ (by omega) (by omega), hdrop]
    simp [vb, dig_toNat]
  · intro h
    have h10 : ¬ m < 10 := by simp at h; omega
    refine ⟨?_, ?_, by omega, .inl (by omega)⟩
    · rw [← hd, dec_hi m h10]; simp
    · have e : p - 4 = (p - 1 - 4) + 1 := by omega
      rw [e, Nat.pow_succ] at hm10
      omega
  · intro h
    have h10 : m < 10 := by simp at h; omega
    exact ⟨by rw [← hd, dec_lo m h10]; rfl, by omega⟩

set_option maxRecDepth 100000 in
theorem nums_Text (n : Int) (w : World) :
    Calls Try.prog 98 #[.int .i64 n] w fun e w' => e = .returned (.string ⟨(dec (cut50 n).toNat).toArray⟩) ∧ Below w.heap.size w w' := by
  generalize hN : (cut50 n).toNat = N
  have HN := Lib.hid hN
  clear hN
  go_enter Try.func98, Try.ntmps98
  go_wp2
  all_goals
    go_loopw [0, 4, 5] (fun v0 v4 v5 wr => TextRel N w.heap.size w v0 v4 v5 wr) (fun _ v4 _ _ => (intOf v4).toNat)
    case atStart =>
      have h1 := cut50_range n
      have h2 := HN.out
      have h3 := text_start N (by omega) w
      first
        | exact h3
        | (have h4 : (N : Int) = n := by unfold cut50 at h2; omega
           rw [h4] at h3
           exact h3)
        | (have h4 : (N : Int) = 0 := by unfold cut50 at h2; omega
           rw [h4] at h3
           exact h3)
        | (have h4 : (N : Int) = 1125899906842624 := by unfold cut50 at h2; omega
           rw [h4] at h3
           exact h3)
    case round =>
      obtain ⟨m, p, ok, l, arr, rfl, rfl, rfl, hpl, hblk, harr, hdrop, htrue, hfalse, hbel⟩ := hrel
      have hsz := hblk.lt
      cases ok
      · obtain ⟨hl, hp19⟩ := hfalse rfl
        have HL := Lib.hid hl
        have hp20 : p ≤ 20 := by omega
        have hconv : ∀ c, (convert 46 9 (.slice (some ⟨w.heap.size, p, none⟩) (20 - p) c)).run Try.prog wr = .ok (.string ⟨l.toArray⟩) wr := by
          intro c
          have e : 20 - p = l.length := by omega
          rw [e]
          refine run_convert_bytes_back wr _ _ 5 _ c l Try.underlying46 Try.underlying5 Try.underlying9 ?_
          intro j hj
          rw [add_lit, hblk.cell]
          have h1 : (arr.toList.drop p)[j]? = some (vb l[j]) := by rw [hdrop]; simp [hj]
          simpa [vb] using h1
        clear hdrop hpl harr hfalse htrue hl
        have hsl := run_sliceAt_lo (P := Try.prog) wr 135 5 20 Try.underlying135 (by kernel_rfl) w.heap.size 0 p (by omega)
        rw [Nat.zero_add] at hsl
        go_wp2
        go_ret
        exact ⟨ret_str (by rw [HL.out]), hbel⟩
      · obtain ⟨hd, hm10, hmb, hmp⟩ := htrue rfl
        have hp5 : 5 ≤ p := by
          rcases Nat.lt_or_ge p 5 with h | h
          · have e : p - 4 = 0 := by omega
            rw [e] at hm10
            omega
          · exact h
        have hp20 : p ≤ 20 := by omega
        have hc : wr.cell? ⟨w.heap.size, p - 1, none⟩ = some ((arr[p-1]?).getD undef) := by rw [hblk.cell, Array.getElem?_eq_getElem (by omega)]; rfl
        have hf : wr.frozen? ⟨w.heap.size, p - 1, none⟩ = false := hblk.frozen _
        have HS := Lib.hid (text_step hd hm10 hmb hp5 hpl hblk harr hdrop hbel)
        clear hdrop hpl harr hm10 hfalse htrue hd
        go_wp2
        go_roundw
        case rel => exact HS.out
        case measure => simp [intOf]; omega
end Go.Proofs.Ytfebncpfhdgkpaa
