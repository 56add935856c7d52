/- Contract of the reference's Text: the digits; the world as it was. No condition. -/
import Derived.Test.YtnaaknkknhediaaNumsA
namespace Go.Proofs.Ytnaaknkknhediaa
open Go.RowKit

def pre (m : Nat) : List UInt8 := if m < 10 then [] else dec (m / 10)
theorem dec_pre (m : Nat) : dec m = pre m ++ [dig m] := by
  unfold pre
  by_cases h : m < 10
  · rw [dec_lo m h, if_pos h]; rfl
  · rw [dec_hi m h, if_neg h]

def Text2Rel (N : Nat) (v0 v3 : Value) : Prop :=
  ∃ (m : Nat) (l : List UInt8), v0 = .int .i64 m ∧ v3 = .string ⟨l.toArray⟩ ∧ pre m ++ l = dec N ∧ m ≤ 1125899906842624

theorem digits_cut (m : Nat) (w : World) : (Instr.slice 9 (.string ⟨#[48, 49, 50, 51, 52, 53, 54, 55, 56, 57]⟩) (some (.int .i64 ((m : Int) % 10))) (some (.int .i64 ((m : Int) % 10 + 1))) none).run Try.prog w = .ok (.string ⟨[dig m].toArray⟩) w := by
  rw [run_slice_string w _ _ _ _ _ _ Try.underlying9 (by omega) (by omega) (by simp only [ByteArray.size]; simp; omega)]
  have e : dig m = dig (m % 10) := by unfold dig; rw [Nat.mod_mod]
  have hlt : m % 10 < 10 := Nat.mod_lt _ (by decide)
  have e1 : ((m : Int) % 10).toNat = m % 10 := by omega
  have e2 : ((m : Int) % 10 + 1).toNat = m % 10 + 1 := by omega
  rw [e1, e2, e]
  generalize m % 10 = d at hlt
  match d, hlt with
  | 0, _ => rfl
  | 1, _ => rfl
  | 2, _ => rfl
  | 3, _ => rfl
  | 4, _ => rfl
  | 5, _ => rfl
  | 6, _ => rfl
  | 7, _ => rfl
  | 8, _ => rfl
  | 9, _ => rfl
theorem digits_cut10 (m : Nat) (w : World) : (Instr.slice 9 (.string ⟨#[48, 49, 50, 51, 52, 53, 54, 55, 56, 57]⟩) (some (.int .i64 ((m : Int) / 10 % 10))) (some (.int .i64 ((m : Int) / 10 % 10 + 1))) none).run Try.prog w = .ok (.string ⟨[dig (m / 10)].toArray⟩) w := by
  have h := digits_cut (m / 10) w
  simpa using h

theorem text2_step {N m : Nat} {l : List UInt8} (hp : pre m ++ l = dec N) (hm : m ≤ 1125899906842624) (h10 : ¬ m < 10) : Text2Rel N (.int .i64 ((m : Int) / 10)) (.string (⟨[dig (m / 10)].toArray⟩ ++ ⟨l.toArray⟩)) := by
  refine ⟨m / 10, dig (m / 10) :: l, by go_num, ?_, ?_, by omega⟩
  · rw [ByteArray.mk_append_mk]; rfl
  · rw [← hp]
    unfold pre
    rw [if_neg h10]
    by_cases h : m / 10 < 10
    · rw [if_pos h, dec_lo _ h]; rfl
    · rw [if_neg h, dec_hi _ h]; simp

set_option maxRecDepth 100000 in
theorem ref02_Text (n : Int) (w : World) :
    Calls Try.prog 21 #[.int .i64 n] w fun e w' => e = .returned (.string ⟨(dec (cut50 n).toNat).toArray⟩) ∧ w = w' := by
  have hc := cut50_range n
  generalize hN : (cut50 n) = N at *
  obtain ⟨N, rfl⟩ := Int.eq_ofNat_of_zero_le hc.1
  have HN := Lib.hid hN
  clear hN
  have hc2 := hc.2
  clear hc
  have d1 := fun m => digits_cut m w
  have d2 := fun m => digits_cut10 m w
  have HD := Lib.hid (dec_pre N)
  go_enter Try.func21, Try.ntmps21
  go_wp2_with (go_at_call 16; refine (ref02_Cut _ _).mono ?_; rintro e w' ⟨rfl, rfl⟩; rw [HN.out])
  go_loop [0, 3] (fun v0 v3 => Text2Rel N v0 v3) (fun v0 _ => (intOf v0).toNat)
  case atStart => exact ⟨N, [dig N], rfl, rfl, HD.out.symm, by omega⟩
  case round =>
    obtain ⟨m, l, rfl, rfl, hp, hm⟩ := hrel
    have hlen : l.length ≤ 16 := by
      have := dec_length N (by omega)
      rw [← hp] at this; simp at this; omega
    have HP := Lib.hid hp
    clear hp
    by_cases h10 : m < 10
    · go_wp2
      go_ret
      exact ⟨ret_str (by rw [← HP.out]; simp [pre, h10]), rfl⟩
    · have HS := Lib.hid (text2_step HP.out hm h10)
      go_wp2
      go_round
      case rel => exact HS.out
      case measure => simp [intOf]; omega
end Go.Proofs.Ytnaaknkknhediaa
