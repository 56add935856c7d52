/- Contract of the reference's Read: the number of a text of at most 2^63 - 1 bytes, and whether there is one; the world as it was. -/
import Derived.Test.YtimmfcbpdnlfjaaDoorNumsD
namespace Go.Proofs.YtimmfcbpdnlfjaaDoor
open Go.RowKit

/-- What the reference's Read hands back: whether there is a number, and it, where there is one. -/
def RefRead (l : List UInt8) (w : World) (e : Ending) (w' : World) : Prop :=
  w = w' ∧ ∃ m : Int, e = .returned (.tuple #[.int .i64 m, .bool (rd l).isSome]) ∧ ∀ n, rd l = some n → m = n

theorem refRead_no {l : List UInt8} {w : World} (m : Int) (h : rd l = none) : RefRead l w (.returned (.tuple #[.int .i64 m, .bool false])) w :=
  ⟨rfl, m, by rw [h]; rfl, fun n hn => by rw [h] at hn; cases hn⟩
theorem refRead_end {l : List UInt8} {w : World} (b : Bool) (h : b = decide (dec (cut50 (val l : Int)).toNat = l)) : RefRead l w (.returned (.tuple #[.int .i64 (val l : Int), .bool b])) w := by
  have hr := cut50_range (val l : Int)
  by_cases he : dec (cut50 (val l : Int)).toNat = l
  · have h1 := rd_dec (cut50 (val l : Int)).toNat (by omega)
    have h2 := (dec_big (cut50 (val l : Int)).toNat).1
    rw [he] at h1 h2
    refine ⟨rfl, (val l : Int), by rw [h, h1]; simp [he], fun n hn => ?_⟩
    rw [h1] at hn
    injection hn with hn
    omega
  · have hn : rd l = none := by
      cases hr : rd l with
      | none => rfl
      | some n =>
        obtain ⟨_, h2, h3, h4⟩ := rd_some hr
        refine absurd ?_ he
        have : cut50 (val l : Int) = n := by unfold cut50; omega
        rw [this]
        exact h2
    refine ⟨rfl, (val l : Int), by rw [h, hn]; simp [he], fun n hh => ?_⟩
    rw [hn] at hh
    cases hh

def Read2Rel (s : ByteArray) (v4 v5 : Value) : Prop :=
  ∃ k : Nat, k ≤ s.size ∧ v5 = .int .i64 k ∧ v4 = .int .i64 (val (s.data.toList.take k)) ∧ (s.data.toList.take k).all isD = true
theorem read2_step {s : ByteArray} {k : Nat} (h : k < s.size) (hall : (s.data.toList.take k).all isD = true) (hd : isD s[k] = true) :
    Read2Rel s (.int .i64 (10 * (val (s.data.toList.take k) : Int) + ((s[k].toNat : Int) - 48))) (.int .i64 ((k : Int) + 1)) := by
  refine ⟨k + 1, by omega, by go_num, ?_, ?_⟩
  · rw [take_snoc s k h, val_snoc]
    have := (isD_iff _).1 hd
    congr 1
    omega
  · rw [take_snoc s k h, List.all_append, hall]
    simp [hd]

set_option maxRecDepth 100000 in
set_option maxHeartbeats 1000000 in
theorem ref02_Read (s : ByteArray) (w : World) (hs : s.size ≤ 9223372036854775807) :
    Calls Tryd.prog 40 #[.string s] w (RefRead s.data.toList w) := by
  have hlen : s.data.toList.length = s.size := Array.length_toList
  by_cases hc : s.size < 1 ∨ 16 < s.size
  · have R := Lib.hid (refRead_no (l := s.data.toList) (w := w) 0 (by
      rcases hc with h | h
      · rw [List.eq_nil_of_length_eq_zero (by omega : s.data.toList.length = 0)]; exact rd_nil
      · exact rd_long (by omega)))
    clear hlen
    rcases hc with h | h
    all_goals
      go_enter Tryd.func40, Tryd.ntmps40
      go_wp2
      go_ret2
      exact R.out
  · have h1 : 1 ≤ s.size := by omega
    have h16 : s.size ≤ 16 := by omega
    have HL := Lib.hid hlen
    clear hc hlen
    go_enter Tryd.func40, Tryd.ntmps40
    go_wp2
    go_loop [4, 5] (fun v4 v5 => Read2Rel s v4 v5) (fun _ v5 => s.size - (intOf v5).toNat)
    case atStart => exact ⟨0, by omega, rfl, rfl, rfl⟩
    case round =>
      obtain ⟨k, hk, rfl, rfl, hall⟩ := hrel
      have hvb : val (s.data.toList.take k) < 10000000000000000 := by
        have h2 := val_lt _ _ rfl hall
        have h3 : (s.data.toList.take k).length ≤ 16 := by have := HL.out; rw [List.length_take]; omega
        exact Nat.lt_of_lt_of_le h2 (Nat.pow_le_pow_right (by decide) h3)
      have HA := Lib.hid hall
      clear hall
      by_cases hlt : k < s.size
      · cases hd : isD s[k]
        · have R := Lib.hid (refRead_no (l := s.data.toList) (w := w) 0 (rd_other (by
            rw [List.all_eq_false]
            exact ⟨s[k], mem_at s k hlt, by rw [hd]; decide⟩)))
          have hcase : s[k].toNat < 48 ∨ (48 ≤ s[k].toNat ∧ 57 < s[k].toNat) := by
            have : ¬ (48 ≤ s[k].toNat ∧ s[k].toNat ≤ 57) := fun hh => by rw [(isD_iff _).2 hh] at hd; cases hd
            omega
          clear hd
          rcases hcase with hr1 | ⟨hr1, hr2⟩
          all_goals
            go_wp2
            go_ret2
            exact R.out
        · obtain ⟨hc1, hc2⟩ := (isD_iff _).1 hd
          have HS := Lib.hid (read2_step hlt HA.out hd)
          clear hd
          go_wp2
          go_round
          case rel => exact HS.out
          case measure => simp [intOf]; omega
      · have hall : s.data.toList.all isD = true := by have := HA.out; rwa [List.take_of_length_le (by rw [HL.out]; omega)] at this
        rw [List.take_of_length_le (by rw [HL.out]; omega)] at hvb ⊢
        have R := fun b h => Lib.hid (refRead_end (l := s.data.toList) (w := w) b h)
        clear hall
        go_wp2_with (go_at_call 52; refine (ref02_Text _ _).mono ?_; rintro e w' ⟨rfl, rfl⟩)
        go_ret2
        refine (R _ ?_).out
        rw [Bool.eq_iff_iff]; simp [ByteArray.toList_eq]
end Go.Proofs.YtimmfcbpdnlfjaaDoor
