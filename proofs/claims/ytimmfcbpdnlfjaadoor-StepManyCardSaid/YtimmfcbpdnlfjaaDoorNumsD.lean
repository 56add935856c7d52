/- Contract of nums.Read: a text of at most 2^63 - 1 bytes is read as the number of which it is the digits, or refused. -/
import Derived.Test.YtimmfcbpdnlfjaaDoorNumsC
import Derived.Test.YtimmfcbpdnlfjaaDoorPlainB
namespace Go.Proofs.YtimmfcbpdnlfjaaDoor
open Go.RowKit

/-- What a Read hands back: the number and 0, or 0 and 20. -/
def rdNum (l : List UInt8) : Int := match rd l with | some n => n | none => 0
def rdErr (l : List UInt8) : Int := match rd l with | some _ => 0 | none => 20
theorem rd_yes_ret {l : List UInt8} {n : Nat} (h : rd l = some n) : Ending.returned (.tuple #[.int .i64 n, .int .i64 0]) = .returned (.tuple #[.int .i64 (rdNum l), .int .i64 (rdErr l)]) := by simp [rdNum, rdErr, h]
theorem rd_no_ret {l : List UInt8} (h : rd l = none) : Ending.returned (.tuple #[.int .i64 0, .int .i64 20]) = .returned (.tuple #[.int .i64 (rdNum l), .int .i64 (rdErr l)]) := by simp [rdNum, rdErr, h]

def ReadRel (s : ByteArray) (w : World) (v4 : Value) (wr : World) : Prop :=
  ∃ k : Nat, k ≤ s.size ∧ wr = w.iter s k ∧ v4 = .int .i64 (val (s.data.toList.take k)) ∧ (s.data.toList.take k).all isD = true

theorem take_snoc (s : ByteArray) (k : Nat) (h : k < s.size) : s.data.toList.take (k + 1) = s.data.toList.take k ++ [s[k]] := by
  rw [List.take_succ_eq_append_getElem (by simpa using h)]; rfl

theorem mem_at (s : ByteArray) (k : Nat) (h : k < s.size) : s[k] ∈ s.data.toList := by
  have h' : k < s.data.toList.length := by rw [Array.length_toList]; exact h
  exact List.getElem_mem h'

theorem rune_other (s : ByteArray) (k : Nat) (h : k < s.size) (hd : isD s[k] = false) : ((Utf8.decode s k).1 < 48 ∨ 57 < (Utf8.decode s k).1) ∧ (Utf8.decode s k).1 ≤ 2147483647 := by
  refine ⟨?_, decode_le s k⟩
  by_cases ha : s[k].toNat < 128
  · rw [decode_ascii s k h ha]
    have : ¬ (48 ≤ s[k].toNat ∧ s[k].toNat ≤ 57) := fun hh => by rw [(isD_iff _).2 hh] at hd; cases hd
    simp only
    omega
  · have := (decode_high s k h (by omega)).1
    omega

theorem read_step {s : ByteArray} {w : World} {k : Nat} (h : k < s.size) (hall : (s.data.toList.take k).all isD = true) (hd : isD s[k] = true) :
    ReadRel s w (.int .i64 (10 * (val (s.data.toList.take k) : Int) + ((s[k].toNat : Int) - 48))) (w.iter s (k + 1)) := by
  refine ⟨k + 1, by omega, rfl, ?_, ?_⟩
  · rw [take_snoc s k h, val_snoc]
    have := (isD_iff _).1 hd
    congr 1
    omega
  · rw [take_snoc s k h, List.all_append, hall]
    simp [hd]

theorem iter_below (w : World) (s : ByteArray) (k : Nat) : Below w.heap.size w (w.iter s k) := (Below.refl _ _).alloc (Nat.le_refl _) _

set_option maxRecDepth 100000 in
set_option maxHeartbeats 1000000 in
theorem nums_Read (s : ByteArray) (w : World) (hs : s.size ≤ 9223372036854775807) :
    Calls Tryd.prog 35 #[.string s] w fun e w' => e = .returned (.tuple #[.int .i64 (rdNum s.data.toList), .int .i64 (rdErr s.data.toList)]) ∧ Below w.heap.size w w' := by
  have hlen : s.data.toList.length = s.size := Array.length_toList
  by_cases h0 : s.data.toList = []
  · have e0 : s.toList = [] := by rw [ByteArray.toList_eq]; exact h0
    have R := Lib.hid (rd_no_ret (l := s.data.toList) (by rw [h0]; exact rd_nil))
    clear h0 hlen
    go_enter Tryd.func35, Tryd.ntmps35
    go_wp2
    go_ret2
    exact ⟨R.out, Below.refl _ _⟩
  have hpos : 0 < s.size := by rw [← hlen]; exact List.length_pos_iff.2 h0
  have e0 : ¬ s.toList = [] := by rw [ByteArray.toList_eq]; exact h0
  have e1 : s.toList.isEmpty = false := by rw [ByteArray.toList_eq]; simpa using h0
  have H0 := Lib.hid h0
  have HL := Lib.hid hlen
  clear h0 hlen
  by_cases hl : 16 < s.size
  · have R := Lib.hid (rd_no_ret (rd_long (l := s.data.toList) (by rw [HL.out]; exact hl)))
    go_enter Tryd.func35, Tryd.ntmps35
    go_wp2
    go_ret2
    exact ⟨R.out, Below.refl _ _⟩
  have hhead : s.data.toList.head? = some (s[0]'hpos) := by
    rw [List.head?_eq_getElem?]
    show s.data.toList[0]? = _
    rw [List.getElem?_eq_getElem (by rw [HL.out]; exact hpos)]
    rfl
  by_cases hz : 1 < s.size ∧ s[0].toNat = 48
  · obtain ⟨h1, h48⟩ := hz
    have R := Lib.hid (rd_no_ret (rd_nought (l := s.data.toList) (by rw [HL.out]; exact h1) (by rw [hhead]; congr 1; exact UInt8.toNat_inj.1 h48)))
    have hb : (((s[0].toNat : Nat) : Int) == 48) = true := by simp [h48]
    clear h48 hhead
    go_enter Tryd.func35, Tryd.ntmps35
    go_wp2
    go_ret2
    exact ⟨R.out, Below.refl _ _⟩
  have HH : Hid (s.data.toList.length = 1 ∨ s.data.toList.head? ≠ some 48) := Lib.hid (by
    rcases Nat.lt_or_ge 1 s.size with h1 | h1
    · right
      rw [hhead]
      intro h
      injection h with h
      exact hz ⟨h1, by rw [h]; rfl⟩
    · left
      rw [HL.out]; omega)
  have hcase : s.size = 1 ∨ (1 < s.size ∧ (((s[0].toNat : Nat) : Int) == 48) = false) := by
    rcases Nat.lt_or_ge 1 s.size with h1 | h1
    · exact .inr ⟨h1, by simp; intro h; exact hz ⟨h1, by omega⟩⟩
    · exact .inl (by omega)
  clear hhead hz
  rcases hcase with h1 | ⟨h1, hb⟩
  all_goals
    go_enter Tryd.func35, Tryd.ntmps35
    go_wp2
    go_loopw [4] (fun v4 wr => ReadRel s w v4 wr) (fun _ wr => s.size - wr.iterPos w.heap.size)
    case atStart => exact ⟨0, by omega, rfl, rfl, rfl⟩
    case round =>
      obtain ⟨k, hk, rfl, rfl, hall⟩ := hrel
      have hvb : val (s.data.toList.take k) < 10000000000000000 := by
        have h2 := val_lt _ _ rfl hall
        have h3 : (s.data.toList.take k).length ≤ 16 := by have := HL.out; rw [List.length_take]; omega
        exact Nat.lt_of_lt_of_le h2 (Nat.pow_le_pow_right (by decide) h3)
      have HA := Lib.hid hall
      clear hall
      by_cases hlt : k < s.size
      · cases hd : isD s[k]
        · have hr := rune_other s k hlt hd
          have hnx : ∀ ty, (Instr.next (.pointer (some ⟨w.heap.size, 0, none⟩)) true ty).run Tryd.prog (w.iter s k) = _ := fun ty => run_next_any w s k ty hlt
          obtain ⟨r, hr0⟩ : ∃ r, r = (Utf8.decode s k).1 := ⟨_, rfl⟩
          rw [← hr0] at hr hnx
          have R := Lib.hid (rd_no_ret (rd_other (l := s.data.toList) (by
            rw [List.all_eq_false]
            exact ⟨s[k], mem_at s k hlt, by rw [hd]; decide⟩)))
          obtain ⟨hr1, hr2⟩ := hr
          clear hd hr0
          rcases hr1 with hr1 | hr1
          all_goals
            go_wp2
            go_ret2
            exact ⟨R.out, iter_below _ _ _⟩
        · have hc := (isD_iff _).1 hd
          have hnx : ∀ ty, (Instr.next (.pointer (some ⟨w.heap.size, 0, none⟩)) true ty).run Tryd.prog (w.iter s k) = _ := fun ty => run_next_ascii w s k ty hlt (by omega)
          have HS := Lib.hid (read_step (w := w) hlt HA.out hd)
          obtain ⟨hc1, hc2⟩ := hc
          clear hd
          go_wp2
          go_roundw
          case rel => exact HS.out
          case measure => simp; omega
      · have hnx : ∀ ty, (Instr.next (.pointer (some ⟨w.heap.size, 0, none⟩)) true ty).run Tryd.prog (w.iter s k) = _ := fun ty => run_next_end w s k ty hlt
        have hall : s.data.toList.all isD = true := by have := HA.out; rwa [List.take_of_length_le (by rw [HL.out]; omega)] at this
        rw [List.take_of_length_le (by rw [HL.out]; omega)] at hvb ⊢
        by_cases hv : 1125899906842624 < val s.data.toList
        · have R := Lib.hid (rd_no_ret (rd_great hv))
          clear hall
          go_wp2
          go_ret2
          exact ⟨R.out, iter_below _ _ _⟩
        · have R := Lib.hid (rd_yes_ret (rd_yes H0.out hall HH.out (by omega)))
          clear hall
          go_wp2
          go_ret2
          exact ⟨R.out, iter_below _ _ _⟩
end Go.Proofs.YtimmfcbpdnlfjaaDoor
