/- Plain lemmas on decimal digits; no program is named here. Contracts of nums.Add, nums.Text and of the references' Cut and Text: what they compute; what was there ahead of the call stands. No condition. A number's text. Contract of the reference's Cut. Contract of the reference's Text: the digits; the world as it was. No condition. Contracts of nums.Stamp and of the reference's Stamp. No condition. -/
import Derived.Test.YtimmfcbpdnlfjaaDoorWords
namespace Go.Proofs.YtimmfcbpdnlfjaaDoor

def cut50 (n : Int) : Int := if n < 0 then 0 else if n > 1125899906842624 then 1125899906842624 else n
theorem cut50_range (n : Int) : 0 ≤ cut50 n ∧ cut50 n ≤ 1125899906842624 := by unfold cut50; omega
def add50 (a b : Int) : Int := cut50 (min (max a (-1125899906842624)) 1125899906842624 + min (max b (-1125899906842624)) 1125899906842624)

def dig (n : Nat) : UInt8 := UInt8.ofNat (48 + n % 10)
theorem dig_toNat (n : Nat) : (dig n).toNat = 48 + n % 10 := by
  unfold dig
  rw [UInt8.toNat_ofNat']
  omega

def dec (n : Nat) : List UInt8 := if n < 10 then [dig n] else dec (n / 10) ++ [dig n]
theorem dec_lo (n : Nat) (h : n < 10) : dec n = [dig n] := by rw [dec, if_pos h]
theorem dec_hi (n : Nat) (h : ¬ n < 10) : dec n = dec (n / 10) ++ [dig n] := by rw [dec, if_neg h]
theorem dec_length_pos (n : Nat) : 0 < (dec n).length := by
  by_cases h : n < 10
  · rw [dec_lo n h]; simp
  · rw [dec_hi n h]; simp
theorem dec_length_le : ∀ (k n : Nat), n < 10 ^ (k + 1) → (dec n).length ≤ k + 1
  | 0, n, h => by rw [dec_lo n (by simpa using h)]; simp
  | k + 1, n, h => by
    by_cases h10 : n < 10
    · rw [dec_lo n h10]; simp
    · rw [dec_hi n h10]
      have := dec_length_le k (n / 10) (by rw [Nat.div_lt_iff_lt_mul (by decide)]; rw [Nat.pow_succ] at h; exact h)
      simp; omega
theorem dec_length (n : Nat) (h : n ≤ 1125899906842624) : (dec n).length ≤ 16 := dec_length_le 15 n (by omega)
end Go.Proofs.YtimmfcbpdnlfjaaDoor

namespace Go.Proofs.YtimmfcbpdnlfjaaDoor
open Go.RowKit

/-- What the loop of nums.Text knows: m is left, from place p on the digits l stand. -/
def TextRel (N B : Nat) (w : World) (v0 v4 v5 : Value) (wr : World) : Prop :=
  ∃ (m p : Nat) (ok : Bool) (l : List UInt8) (arr : Array Value), v0 = .int .i64 m ∧ v4 = .int .i64 p ∧ v5 = .bool ok ∧ p + l.length = 20 ∧ Blk wr B 86 arr ∧ arr.size = 20 ∧ arr.toList.drop p = l.map vb ∧
    (ok = true → dec m ++ l = dec N ∧ m < 10 ^ (p - 4) ∧ m ≤ 1125899906842624 ∧ (0 < m ∨ p = 20)) ∧ (ok = false → l = dec N ∧ p < 20) ∧ Below B w wr

theorem text_start (N : Nat) (hN : N ≤ 1125899906842624) (w : World) :
    TextRel N w.heap.size w (.int .i64 (N : Int)) (.int .i64 20) (.bool true) (w.alloc (.cells (Array.replicate 20 (.int .u8 0)) 86)) :=
  ⟨N, 20, true, [], _, rfl, rfl, rfl, rfl, Blk.new _ _ _, rfl, rfl, fun _ => ⟨by simp, by omega, hN, .inr rfl⟩, (by intro h; cases h), (Below.refl _ _).alloc (Nat.le_refl _) _⟩

theorem drop_set_pred (arr : Array Value) (p : Nat) (u : Value) (h : 0 < p) (hs : p ≤ arr.size) : (arr.setIfInBounds (p - 1) u).toList.drop (p - 1) = u :: arr.toList.drop p := by
  have e : p - 1 + 1 = p := by omega
  rw [Array.toList_setIfInBounds, List.drop_eq_getElem_cons (by simp; omega), e, List.getElem_set_self, List.drop_set_of_lt (by omega)]

theorem text_step {N B m p : Nat} {l : List UInt8} {arr : Array Value} {w wr : World} (hd : dec m ++ l = dec N) (hm10 : m < 10 ^ (p - 4)) (hmb : m ≤ 1125899906842624) (hp5 : 5 ≤ p) (hpl : p + l.length = 20)
    (hblk : Blk wr B 86 arr) (harr : arr.size = 20) (hdrop : arr.toList.drop p = l.map vb) (hbel : Below B w wr) :
    TextRel N B w (.int .i64 ((m : Int) / 10)) (.int .i64 ((p : Int) - 1)) (.bool (decide (0 < (m : Int) / 10))) (wr.setCell ⟨B, p - 1, none⟩ (.int .u8 (48 + (m : Int) % 10))) := by
  refine ⟨m / 10, p - 1, decide (0 < (m : Int) / 10), dig m :: l, _, by go_num, by go_num, rfl, by simp; omega, hblk.set_ _ _, by simpa using harr, ?_, ?_, ?_, hbel.setCell (Nat.le_refl _) _⟩
  · rw [drop_set_pred _ _ _ (by omega) (by omega), hdrop]
    simp [vb, dig_toNat]
  · intro h
    have h10 : ¬ m < 10 := by simp at h; omega
    refine ⟨?_, ?_, by omega, .inl (by omega)⟩
    · rw [← hd, dec_hi m h10]; simp
    · have e : p - 4 = (p - 1 - 4) + 1 := by omega
      rw [e, Nat.pow_succ] at hm10
      omega
  · intro h
    have h10 : m < 10 := by simp at h; omega
    exact ⟨by rw [← hd, dec_lo m h10]; rfl, by omega⟩

set_option maxRecDepth 100000 in
theorem nums_Text (n : Int) (w : World) :
    Calls Tryd.prog 44 #[.int .i64 n] w fun e w' => e = .returned (.string ⟨(dec (cut50 n).toNat).toArray⟩) ∧ Below w.heap.size w w' := by
  generalize hN : (cut50 n).toNat = N
  have HN := Lib.hid hN
  clear hN
  go_enter Tryd.func44, Tryd.ntmps44
  go_wp2
  all_goals
    go_loopw [0, 4, 5] (fun v0 v4 v5 wr => TextRel N w.heap.size w v0 v4 v5 wr) (fun _ v4 _ _ => (intOf v4).toNat)
    case atStart =>
      have h1 := cut50_range n
      have h2 := HN.out
      have h3 := text_start N (by omega) w
      first
        | exact h3
        | (have h4 : (N : Int) = n := by unfold cut50 at h2; omega
           rw [h4] at h3
           exact h3)
        | (have h4 : (N : Int) = 0 := by unfold cut50 at h2; omega
           rw [h4] at h3
           exact h3)
        | (have h4 : (N : Int) = 1125899906842624 := by unfold cut50 at h2; omega
           rw [h4] at h3
           exact h3)
    case round =>
      obtain ⟨m, p, ok, l, arr, rfl, rfl, rfl, hpl, hblk, harr, hdrop, htrue, hfalse, hbel⟩ := hrel
      have hsz := hblk.lt
      cases ok
      · obtain ⟨hl, hp19⟩ := hfalse rfl
        have HL := Lib.hid hl
        have hp20 : p ≤ 20 := by omega
        have hconv : ∀ c, (convert 59 9 (.slice (some ⟨w.heap.size, p, none⟩) (20 - p) c)).run Tryd.prog wr = .ok (.string ⟨l.toArray⟩) wr := by
          intro c
          have e : 20 - p = l.length := by omega
          rw [e]
          refine run_convert_bytes_back wr _ _ 5 _ c l Tryd.underlying59 Tryd.underlying5 Tryd.underlying9 ?_
          intro j hj
          rw [add_lit, hblk.cell]
          have h1 : (arr.toList.drop p)[j]? = some (vb l[j]) := by rw [hdrop]; simp [hj]
          simpa [vb] using h1
        clear hdrop hpl harr hfalse htrue hl
        have hsl := run_sliceAt_lo (P := Tryd.prog) wr 86 5 20 Tryd.underlying86 (by kernel_rfl) w.heap.size 0 p (by omega)
        rw [Nat.zero_add] at hsl
        go_wp2
        go_ret
        exact ⟨ret_str (by rw [HL.out]), hbel⟩
      · obtain ⟨hd, hm10, hmb, hmp⟩ := htrue rfl
        have hp5 : 5 ≤ p := by
          rcases Nat.lt_or_ge p 5 with h | h
          · have e : p - 4 = 0 := by omega
            rw [e] at hm10
            omega
          · exact h
        have hp20 : p ≤ 20 := by omega
        have hc : wr.cell? ⟨w.heap.size, p - 1, none⟩ = some ((arr[p-1]?).getD undef) := by rw [hblk.cell, Array.getElem?_eq_getElem (by omega)]; rfl
        have hf : wr.frozen? ⟨w.heap.size, p - 1, none⟩ = false := hblk.frozen _
        have HS := Lib.hid (text_step hd hm10 hmb hp5 hpl hblk harr hdrop hbel)
        clear hdrop hpl harr hm10 hfalse htrue hd
        go_wp2
        go_roundw
        case rel => exact HS.out
        case measure => simp [intOf]; omega
end Go.Proofs.YtimmfcbpdnlfjaaDoor

namespace Go.Proofs.YtimmfcbpdnlfjaaDoor
open Go.RowKit

def num (n : Int) : List UInt8 := dec (cut50 n).toNat
theorem num_length (n : Int) : (num n).length ≤ 16 := dec_length _ (by have := cut50_range n; omega)
end Go.Proofs.YtimmfcbpdnlfjaaDoor

namespace Go.Proofs.YtimmfcbpdnlfjaaDoor
open Go.RowKit

theorem ref02_Cut (n : Int) (w : World) :
    Calls Tryd.prog 57 #[.int .i64 n] w fun e w' => e = .returned (.int .i64 (cut50 n)) ∧ w = w' := by
  go_enter Tryd.func57, Tryd.ntmps57
  go_wp2
  all_goals (go_ret; exact ⟨ret_int (by unfold cut50; omega), rfl⟩)
end Go.Proofs.YtimmfcbpdnlfjaaDoor

namespace Go.Proofs.YtimmfcbpdnlfjaaDoor
open Go.RowKit

def pre (m : Nat) : List UInt8 := if m < 10 then [] else dec (m / 10)
theorem dec_pre (m : Nat) : dec m = pre m ++ [dig m] := by
  unfold pre
  by_cases h : m < 10
  · rw [dec_lo m h, if_pos h]; rfl
  · rw [dec_hi m h, if_neg h]

def Text2Rel (N : Nat) (v0 v3 : Value) : Prop :=
  ∃ (m : Nat) (l : List UInt8), v0 = .int .i64 m ∧ v3 = .string ⟨l.toArray⟩ ∧ pre m ++ l = dec N ∧ m ≤ 1125899906842624

theorem digits_cut (m : Nat) (w : World) : (Instr.slice 9 (.string ⟨#[48, 49, 50, 51, 52, 53, 54, 55, 56, 57]⟩) (some (.int .i64 ((m : Int) % 10))) (some (.int .i64 ((m : Int) % 10 + 1))) none).run Tryd.prog w = .ok (.string ⟨[dig m].toArray⟩) w := by
  rw [run_slice_string w _ _ _ _ _ _ Tryd.underlying9 (by omega) (by omega) (by simp only [ByteArray.size]; simp; omega)]
  have e : dig m = dig (m % 10) := by unfold dig; rw [Nat.mod_mod]
  have hlt : m % 10 < 10 := Nat.mod_lt _ (by decide)
  have e1 : ((m : Int) % 10).toNat = m % 10 := by omega
  have e2 : ((m : Int) % 10 + 1).toNat = m % 10 + 1 := by omega
  rw [e1, e2, e]
  generalize m % 10 = d at hlt
  match d, hlt with
  | 0, _ => rfl
  | 1, _ => rfl
  | 2, _ => rfl
  | 3, _ => rfl
  | 4, _ => rfl
  | 5, _ => rfl
  | 6, _ => rfl
  | 7, _ => rfl
  | 8, _ => rfl
  | 9, _ => rfl
theorem digits_cut10 (m : Nat) (w : World) : (Instr.slice 9 (.string ⟨#[48, 49, 50, 51, 52, 53, 54, 55, 56, 57]⟩) (some (.int .i64 ((m : Int) / 10 % 10))) (some (.int .i64 ((m : Int) / 10 % 10 + 1))) none).run Tryd.prog w = .ok (.string ⟨[dig (m / 10)].toArray⟩) w := by
  have h := digits_cut (m / 10) w
  simpa using h

theorem text2_step {N m : Nat} {l : List UInt8} (hp : pre m ++ l = dec N) (hm : m ≤ 1125899906842624) (h10 : ¬ m < 10) : Text2Rel N (.int .i64 ((m : Int) / 10)) (.string (⟨[dig (m / 10)].toArray⟩ ++ ⟨l.toArray⟩)) := by
  refine ⟨m / 10, dig (m / 10) :: l, by go_num, ?_, ?_, by omega⟩
  · rw [ByteArray.mk_append_mk]; rfl
  · rw [← hp]
    unfold pre
    rw [if_neg h10]
    by_cases h : m / 10 < 10
    · rw [if_pos h, dec_lo _ h]; rfl
    · rw [if_neg h, dec_hi _ h]; simp

set_option maxRecDepth 100000 in
theorem ref02_Text (n : Int) (w : World) :
    Calls Tryd.prog 52 #[.int .i64 n] w fun e w' => e = .returned (.string ⟨(dec (cut50 n).toNat).toArray⟩) ∧ w = w' := by
  have hc := cut50_range n
  generalize hN : (cut50 n) = N at *
  obtain ⟨N, rfl⟩ := Int.eq_ofNat_of_zero_le hc.1
  have HN := Lib.hid hN
  clear hN
  have hc2 := hc.2
  clear hc
  have d1 := fun m => digits_cut m w
  have d2 := fun m => digits_cut10 m w
  have HD := Lib.hid (dec_pre N)
  go_enter Tryd.func52, Tryd.ntmps52
  go_wp2_with (go_at_call 57; refine (ref02_Cut _ _).mono ?_; rintro e w' ⟨rfl, rfl⟩; rw [HN.out])
  go_loop [0, 3] (fun v0 v3 => Text2Rel N v0 v3) (fun v0 _ => (intOf v0).toNat)
  case atStart => exact ⟨N, [dig N], rfl, rfl, HD.out.symm, by omega⟩
  case round =>
    obtain ⟨m, l, rfl, rfl, hp, hm⟩ := hrel
    have hlen : l.length ≤ 16 := by
      have := dec_length N (by omega)
      rw [← hp] at this; simp at this; omega
    have HP := Lib.hid hp
    clear hp
    by_cases h10 : m < 10
    · go_wp2
      go_ret
      exact ⟨ret_str (by rw [← HP.out]; simp [pre, h10]), rfl⟩
    · have HS := Lib.hid (text2_step HP.out hm h10)
      go_wp2
      go_round
      case rel => exact HS.out
      case measure => simp [intOf]; omega
end Go.Proofs.YtimmfcbpdnlfjaaDoor

namespace Go.Proofs.YtimmfcbpdnlfjaaDoor
open Go.RowKit Go.Sort

/-- A number's digits. -/
def stampText (p l q : Int) : List UInt8 := num p ++ [46] ++ num l ++ [46] ++ num q

theorem text_120 (w : World) : Calls Tryd.prog 44 #[.int .i64 120] w fun e w' => e = .returned (.string ⟨#[49, 50, 48]⟩) ∧ Below w.heap.size w w' :=
  (nums_Text 120 w).mono fun _ _ ⟨h, hb⟩ => ⟨by rw [h]; exact ret_str (by simp [cut50, dec, dig]), hb⟩
end Go.Proofs.YtimmfcbpdnlfjaaDoor
